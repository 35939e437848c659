/- A slice that goes on behind its end. -/
import Derived.Test.YtdjpjmojmppjkaaGreatMem2
namespace Go.Proofs.YtdjpjmojmppjkaaGreat.Eng
open Go

noncomputable def M.tail (m : M) (b : Nat) (cs : List V) : Option M :=
  match look m b with
  | some ⟨.cells c0, root, al⟩ =>
    cond al (match m.lin.get DH root with
      | some (nw, fl) => cond (Nat.beq nw b) (some { h := m.h.set ⟨.cells cs, root, true⟩ DH m.n, lin := m.lin.set (m.n, fl) DH root, n := m.n + 1, wl := b :: root :: m.wl }) none
      | none => none)
      (some { h := (m.h.set ⟨.cells c0, root, true⟩ DH b).set ⟨.cells cs, root, true⟩ DH m.n, lin := m.lin.set (m.n, 0) DH root, n := m.n + 1, wl := b :: root :: m.wl })
  | _ => none

structure Tailed (m : M) (b : Nat) (c0 : List V) (root : Nat) (al : Bool) (cs : List V) (m' : M) : Prop where
  n : m'.n = m.n + 1
  ent : ∀ k, m'.h.get DH k = if m.n = k then some ⟨.cells cs, root, true⟩ else if b = k then some ⟨.cells c0, root, true⟩ else m.h.get DH k
  self : look m' b = some ⟨.cells c0, root, true⟩
  fresh : look m' m.n = some ⟨.cells cs, root, true⟩
  other : ∀ k, k ≠ b → k ≠ m.n → look m' k = look m k
  lin : ∀ k nw fl, m'.lin.get DH k = some (nw, fl) → (k = root ∧ nw = m.n) ∨ (k ≠ root ∧ m.lin.get DH k = some (nw, fl))
  wl : m'.wl = b :: root :: m.wl
  lin2 : ∀ k, k ≠ root → m'.lin.get DH k = m.lin.get DH k
  newest : al = true → ∀ k e', look m k = some e' → e'.al = true → e'.root = root → k ≤ b

theorem tailed {E : Env} {m m' : M} {w : World} (h : Rel E m w) {b : Nat} {c0 cs : List V} {root : Nat} {al : Bool} (hc : m.n < 65536) (hl : look m b = some ⟨.cells c0, root, al⟩) (ht : m.tail b cs = some m') : Tailed m b c0 root al cs m' := by
  obtain ⟨he, hal⟩ := look_eq.1 hl
  have hid := h.ids b _ he
  have hid1 : b < m.n := hid.1
  have hid2 : root < m.n := hid.2
  have hbn : m.n ≠ b := by omega
  unfold M.tail at ht
  rw [hl] at ht
  dsimp only at ht
  cases al with
  | false =>
    cases ht
    have lin : ∀ k, (m.lin.set (m.n, 0) DH root).get DH k = if root = k then some (m.n, 0) else m.lin.get DH k := fun k => T.get_set _ _ _ _ _ (by show root < 2 ^ 16; omega)
    have ent : ∀ k, ((m.h.set ⟨.cells c0, root, true⟩ DH b).set ⟨.cells cs, root, true⟩ DH m.n).get DH k = if m.n = k then some ⟨.cells cs, root, true⟩ else if b = k then some ⟨.cells c0, root, true⟩ else m.h.get DH k := by
      intro k
      rw [T.get_set _ _ _ _ _ (show m.n < 2 ^ 16 by omega), get_h_set (by omega)]
    refine ⟨rfl, ent, ?_, ?_, fun k hk hkn => ?_, fun k nw fl hk => ?_, rfl, fun k hk => by dsimp only; rw [lin, if_neg (Ne.symm hk)], fun hh => by cases hh⟩
    · rw [look_eq]; refine ⟨by rw [ent, if_neg hbn, if_pos rfl], ?_⟩
      unfold alive; dsimp only; rw [lin, if_pos rfl]; exact Nat.ble_eq_true_of_le (Nat.zero_le _)
    · rw [look_eq]; refine ⟨by rw [ent, if_pos rfl], ?_⟩
      unfold alive; dsimp only; rw [lin, if_pos rfl]; exact Nat.ble_eq_true_of_le (Nat.zero_le _)
    · unfold look
      dsimp only
      rw [ent, if_neg (Ne.symm hkn), if_neg (Ne.symm hk)]
      cases hek : m.h.get DH k with
      | none => rfl
      | some e' =>
        have hr : root ≠ e'.root := fun hr => hk (h.solo b k _ e' he hek rfl hr.symm)
        unfold alive; dsimp only; rw [lin, if_neg hr]
    · rw [lin] at hk
      by_cases e : root = k
      · rw [if_pos e] at hk; cases hk; exact .inl ⟨e.symm, rfl⟩
      · rw [if_neg e] at hk; exact .inr ⟨fun x => e x.symm, hk⟩
  | true =>
    dsimp only [cond_true] at ht
    cases hlin : m.lin.get DH root with
    | none => rw [hlin] at ht; cases ht
    | some p =>
      obtain ⟨nw, fl⟩ := p
      rw [hlin] at ht
      dsimp only at ht
      cases hnb : Nat.beq nw b with
      | false => rw [hnb] at ht; cases ht
      | true =>
        rw [hnb] at ht
        have : nw = b := Nat.eq_of_beq_eq_true hnb
        subst this
        cases ht
        have hfl : fl ≤ nw := by
          unfold alive at hal
          dsimp only at hal
          rw [hlin] at hal
          exact Nat.le_of_ble_eq_true hal
        have lin : ∀ k, (m.lin.set (m.n, fl) DH root).get DH k = if root = k then some (m.n, fl) else m.lin.get DH k := fun k => T.get_set _ _ _ _ _ (by show root < 2 ^ 16; omega)
        have ent : ∀ k, (m.h.set ⟨.cells cs, root, true⟩ DH m.n).get DH k = if m.n = k then some ⟨.cells cs, root, true⟩ else if nw = k then some ⟨.cells c0, root, true⟩ else m.h.get DH k := by
          intro k
          rw [get_h_set hc]
          by_cases e : m.n = k
          · rw [if_pos e, if_pos e]
          · rw [if_neg e, if_neg e]
            by_cases e2 : nw = k
            · rw [if_pos e2, ← e2]; exact he
            · rw [if_neg e2]
        refine ⟨rfl, ent, ?_, ?_, fun k hk hkn => ?_, fun k nw' fl' hk => ?_, rfl, fun k hk => by dsimp only; rw [lin, if_neg (Ne.symm hk)], fun _ k e' hk hka hkr => h.new k e' nw fl hk hka (by rw [hkr]; exact hlin)⟩
        · rw [look_eq]; refine ⟨by rw [ent, if_neg hbn, if_pos rfl], ?_⟩
          unfold alive; dsimp only; rw [lin, if_pos rfl]; exact Nat.ble_eq_true_of_le hfl
        · rw [look_eq]; refine ⟨by rw [ent, if_pos rfl], ?_⟩
          unfold alive; dsimp only; rw [lin, if_pos rfl]; exact Nat.ble_eq_true_of_le (by omega)
        · unfold look
          dsimp only
          rw [ent, if_neg (Ne.symm hkn), if_neg (Ne.symm hk)]
          cases hek : m.h.get DH k with
          | none => rfl
          | some e' =>
            unfold alive; dsimp only; rw [lin]
            by_cases e : root = e'.root
            · rw [if_pos e, ← e, hlin]
            · rw [if_neg e]
        · rw [lin] at hk
          by_cases e : root = k
          · rw [if_pos e] at hk; cases hk; exact .inl ⟨e.symm, rfl⟩
          · rw [if_neg e] at hk; exact .inr ⟨fun x => e x.symm, hk⟩

theorem Rel.tail {E : Env} {m m' : M} {w w' : World} (h : Rel E m w) {b : Nat} {c0 cs : List V} {root : Nat} {al : Bool} {x y : EB} {o' : Obj} (hc : m.n < 65536) (hl : look m b = some ⟨.cells c0, root, al⟩) (ht : m.tail b cs = some m')
    (hb : E b = some x) (hy : (y.r = x.r ∧ x.s + c0.length ≤ y.s + cs.length) ∨ w.heap.size ≤ y.r) (hyr : y.r < w'.heap.size) (hs : w.heap.size ≤ w'.heap.size) (hother : ∀ r, r < w.heap.size → r ≠ x.r → w'.heap[r]? = w.heap[r]?)
    (hblk : ∀ c t fz, w.heap[x.r]? = some (.cells c t fz) → ∃ c', w'.heap[x.r]? = some (.cells c' t fz) ∧ c'.size = c.size ∧ ∀ i, i < x.s + c0.length → c'[i]? = c[i]?)
    (ho : w'.heap[y.r]? = some o') (hnew : orep (E.add m.n y) y (.cells cs) o') (h1 : w'.os = w.os) (h2 : w'.tape = w.tape) (h3 : w'.output = w.output) :
    Rel (E.add m.n y) m' w' ∧ Step E m w (E.add m.n y) m' w' := by
  have k := tailed h hc hl ht
  obtain ⟨he, _⟩ := look_eq.1 hl
  have hid := h.ids b _ he
  have hid1 : b < m.n := hid.1
  have hid2 : root < m.n := hid.2
  have hun := h.unmapped (Nat.le_refl m.n)
  have hle := E.le_add y hun
  have back : ∀ j z, j ≠ m.n → E.add m.n y j = some z → E j = some z := fun j z hj hz => by rw [Env.add_other _ _ hj] at hz; exact hz
  have cls : ∀ j e', look m' j = some e' → (j = m.n ∧ e' = ⟨.cells cs, root, true⟩) ∨ (j ≠ m.n ∧ ∃ e0, look m j = some e0 ∧ e0.o = e'.o ∧ e0.root = e'.root ∧ (j ≠ b → e0 = e') ∧ (j = b → e' = ⟨.cells c0, root, true⟩)) := by
    intro j e' hj
    by_cases hjn : j = m.n
    · subst hjn; rw [k.fresh] at hj; cases hj; exact .inl ⟨rfl, rfl⟩
    · refine .inr ⟨hjn, ?_⟩
      by_cases hjb : j = b
      · subst hjb; rw [k.self] at hj; cases hj; exact ⟨_, hl, rfl, rfl, fun n => absurd rfl n, fun _ => rfl⟩
      · rw [k.other j hjb hjn] at hj; exact ⟨e', hj, rfl, rfl, fun _ => rfl, fun n => absurd n hjb⟩
  -- a live block of the same row as b
  have same : ∀ j e0 z, look m j = some e0 → E j = some z → z.r = x.r → j ≠ b → e0.al = true ∧ al = true ∧ e0.root = root ∧ j ≤ b ∧ z.s + ncells e0.o ≤ x.s + c0.length := by
    intro j e0 z hj hz hr hjb
    obtain ⟨a1, a2, a3⟩ := h.one j b e0 _ z x hj hl hz hb hr hjb
    have hjle := k.newest a2 j e0 hj a1 a3
    exact ⟨a1, a2, a3, hjle, h.ends j b e0 _ z x hj hl hz hb hr hjle⟩
  refine ⟨⟨fun j z hz => ?_, by rw [k.n]; omega, fun j e' hj => ?_, fun j e' hj => ?_, fun i j e1 e2 z1 z2 hi hj hz1 hz2 hr hne => ?_, fun i j e1 e2 z1 z2 hi hj hz1 hz2 hr hle' => ?_, fun j e' nw fl hj hal hlin => ?_, fun i j e1 e2 hi hj ha hrt => ?_, fun i e1 hi => ?_⟩, ?_⟩
  · rw [k.n]
    by_cases hj : j = m.n
    · subst hj; rw [Env.add_same] at hz; cases hz; exact ⟨by omega, hyr⟩
    · have := h.dom j z (back j z hj hz); omega
  · rw [k.ent] at hj; rw [k.n]
    by_cases e : m.n = j
    · rw [if_pos e] at hj; cases hj; exact ⟨by omega, by show root < _; omega⟩
    · rw [if_neg e] at hj
      by_cases e2 : b = j
      · rw [if_pos e2] at hj; cases hj; exact ⟨by omega, by show root < _; omega⟩
      · rw [if_neg e2] at hj; have := h.ids j e' hj; omega
  · rcases cls j e' hj with ⟨rfl, rfl⟩ | ⟨hjn, e0, hj0, ho0, hr0, _, _⟩
    · exact ⟨y, o', Env.add_same _ _ _, ho, hnew⟩
    · obtain ⟨z, oz, hz, hoz, hrz⟩ := h.obj j e0 hj0
      by_cases hzr : z.r = x.r
      · -- in b's row: its cells lie ahead of the end
        by_cases hjb : j = b
        · subst hjb
          rw [hl] at hj0; cases hj0
          rw [hb] at hz; cases hz
          obtain ⟨c, t, fz, us, rfl, hsz, hlen, hrs, hcells, hfz⟩ := hrz
          obtain ⟨c', hc', hsz', hsame⟩ := hblk c t fz hoz
          refine ⟨x, _, hle _ _ hb, hc', ?_⟩
          rw [← ho0]
          refine ⟨c', t, fz, us, rfl, by rw [hsz']; exact hsz, hlen, reps_mono hle _ _ hrs, fun i hi => ?_, hfz⟩
          have hl' : us.length = c0.length := reps_length hrs
          rw [hsame _ (by omega)]; exact hcells i hi
        · obtain ⟨a1, a2, a3, hjle, hend⟩ := same j e0 z hj0 hz hzr hjb
          rw [hzr] at hoz
          cases hx0 : e0.o with
          | cells cj =>
            rw [hx0] at hrz hend
            obtain ⟨c, t, fz, us, rfl, hsz, hlen, hrs, hcells, hfz⟩ := hrz
            obtain ⟨c', hc', hsz', hsame⟩ := hblk c t fz hoz
            refine ⟨z, _, hle _ _ hz, by rw [hzr]; exact hc', ?_⟩
            rw [← ho0, hx0]
            refine ⟨c', t, fz, us, rfl, by rw [hsz']; exact hsz, hlen, reps_mono hle _ _ hrs, fun i hi => ?_, hfz⟩
            have hl' : us.length = cj.length := reps_length hrs
            have : z.s + cj.length ≤ x.s + c0.length := hend
            rw [hsame _ (by omega)]; exact hcells i hi
          | _ =>
            exfalso
            obtain ⟨ob, hob, hrb⟩ := obj_eq h hl hb
            obtain ⟨c, t, fz, us, rfl, _⟩ := hrb
            rw [hob] at hoz
            rw [hx0] at hrz
            cases hoz
            simp only [orep] at hrz
            first
              | (obtain ⟨_, hh⟩ := hrz; cases hh; done)
              | (obtain ⟨_, _, hh⟩ := hrz; cases hh; done)
              | (obtain ⟨_, _, _, hh⟩ := hrz; cases hh; done)
              | (obtain ⟨_, _, _, _, hh⟩ := hrz; cases hh; done)
              | (cases hrz; done)
      · refine ⟨z, oz, hle _ _ hz, ?_, ?_⟩
        · rw [hother z.r (h.dom j z hz).2 hzr]; exact hoz
        · rw [← ho0]; exact orep_mono hle hrz
  · -- one
    rcases cls i e1 hi with ⟨rfl, rfl⟩ | ⟨hin, f1, hf1, fo1, fr1, fe1, fb1⟩
    · rw [Env.add_same] at hz1; cases hz1
      rcases cls j e2 hj with ⟨rfl, rfl⟩ | ⟨hjn, f2, hf2, fo2, fr2, fe2, fb2⟩
      · exact absurd rfl hne
      · have hz2' := back j z2 hjn hz2
        by_cases hjb : j = b
        · rw [fb2 hjb]; exact ⟨rfl, rfl, rfl⟩
        · rcases hy with ⟨hyx, _⟩ | hyx
          · obtain ⟨a1, a2, a3, _, _⟩ := same j f2 z2 hf2 hz2' (by rw [← hr]; exact hyx) hjb
            rw [← fe2 hjb]; exact ⟨rfl, a1, a3.symm⟩
          · have := (h.dom j z2 hz2').2; omega
    · have hz1' := back i z1 hin hz1
      rcases cls j e2 hj with ⟨rfl, rfl⟩ | ⟨hjn, f2, hf2, fo2, fr2, fe2, fb2⟩
      · rw [Env.add_same] at hz2; cases hz2
        by_cases hib : i = b
        · rw [fb1 hib]; exact ⟨rfl, rfl, rfl⟩
        · rcases hy with ⟨hyx, _⟩ | hyx
          · obtain ⟨a1, a2, a3, _, _⟩ := same i f1 z1 hf1 hz1' (by rw [hr]; exact hyx) hib
            rw [← fe1 hib]; exact ⟨a1, rfl, a3⟩
          · have := (h.dom i z1 hz1').2; omega
      · obtain ⟨a1, a2, a3⟩ := h.one i j f1 f2 z1 z2 hf1 hf2 hz1' (back j z2 hjn hz2) hr hne
        refine ⟨?_, ?_, by rw [← fr1, ← fr2]; exact a3⟩
        · by_cases hib : i = b
          · rw [fb1 hib]
          · rw [← fe1 hib]; exact a1
        · by_cases hjb : j = b
          · rw [fb2 hjb]
          · rw [← fe2 hjb]; exact a2
  · -- ends
    rcases cls i e1 hi with ⟨rfl, rfl⟩ | ⟨hin, f1, hf1, fo1, fr1, fe1, fb1⟩
    · rcases cls j e2 hj with ⟨rfl, rfl⟩ | ⟨hjn, f2, hf2, fo2, fr2, fe2, fb2⟩
      · rw [hz1] at hz2; cases hz2; exact Nat.le_refl _
      · have := (h.ids j f2 (look_eq.1 hf2).1).1; omega
    · have hz1' := back i z1 hin hz1
      rcases cls j e2 hj with ⟨rfl, rfl⟩ | ⟨hjn, f2, hf2, fo2, fr2, fe2, fb2⟩
      · rw [Env.add_same] at hz2; cases hz2
        rcases hy with ⟨hyx, hend⟩ | hyx
        · by_cases hib : i = b
          · rw [fb1 hib]; subst hib; rw [hb] at hz1'; cases hz1'; exact hend
          · obtain ⟨_, _, _, _, h5⟩ := same i f1 z1 hf1 hz1' (by rw [hr]; exact hyx) hib
            rw [← fo1]; exact Nat.le_trans h5 hend
        · have := (h.dom i z1 hz1').2; omega
      · have := h.ends i j f1 f2 z1 z2 hf1 hf2 hz1' (back j z2 hjn hz2) hr hle'
        rw [← fo1, ← fo2]; exact this
  · -- new
    rcases k.lin _ _ _ hlin with ⟨_, rfl⟩ | ⟨hnr, hlin0⟩
    · rcases cls j e' hj with ⟨rfl, rfl⟩ | ⟨_, f, hf, _⟩
      · exact Nat.le_refl _
      · exact Nat.le_of_lt (h.ids j f (look_eq.1 hf).1).1
    · rcases cls j e' hj with ⟨rfl, rfl⟩ | ⟨_, f, hf, fo, fr, fe, fb⟩
      · exact absurd rfl hnr
      · by_cases hjb : j = b
        · rw [fb hjb] at hnr; exact absurd rfl hnr
        · have := fe hjb; subst this; exact h.new j f nw fl hf hal hlin0
  · -- solo
    rw [k.ent] at hi hj
    by_cases e1n : m.n = i
    · rw [if_pos e1n] at hi; cases hi; cases ha
    · rw [if_neg e1n] at hi
      by_cases e1b : b = i
      · rw [if_pos e1b] at hi; cases hi; cases ha
      · rw [if_neg e1b] at hi
        by_cases e2n : m.n = j
        · rw [if_pos e2n] at hj; cases hj
          exact absurd (h.solo i b e1 _ hi he ha hrt) e1b
        · rw [if_neg e2n] at hj
          by_cases e2b : b = j
          · rw [if_pos e2b] at hj; cases hj
            exact absurd (h.solo i b e1 _ hi he ha hrt) e1b
          · rw [if_neg e2b] at hj; exact h.solo i j e1 e2 hi hj ha hrt
  · have hrr : ∀ q e0, m.h.get DH q = some e0 → ∃ e', m'.h.get DH e0.root = some e' := fun q e0 hq => by
      obtain ⟨e', he'⟩ := h.rt q e0 hq
      rw [k.ent]
      by_cases e1 : m.n = e0.root
      · exact ⟨_, if_pos e1⟩
      · rw [if_neg e1]
        by_cases e2 : b = e0.root
        · exact ⟨_, if_pos e2⟩
        · exact ⟨e', by rw [if_neg e2]; exact he'⟩
    rw [k.ent] at hi
    by_cases e1n : m.n = i
    · rw [if_pos e1n] at hi; cases hi; exact hrr b ⟨.cells c0, root, al⟩ he
    · rw [if_neg e1n] at hi
      by_cases e1b : b = i
      · rw [if_pos e1b] at hi; cases hi; exact hrr b ⟨.cells c0, root, al⟩ he
      · rw [if_neg e1b] at hi; exact hrr i e1 hi
  · refine ⟨hle, by rw [k.n]; omega, fun j e' hj hje => ?_, fun j z hz hj => ?_, fun r hr hf => hother r hr (fun e => hf b _ x hl hb e.symm), hs, h1, h2, h3, fun j hj hn => by rw [k.ent, if_neg (by omega), if_neg (by intro e2; subst e2; rw [he] at hn; cases hn)]; exact hn, fun j e' hj => by rw [k.ent]; exact (if e1 : m.n = j then ⟨_, if_pos e1⟩ else if e2 : b = j then ⟨_, by rw [if_neg e1, if_pos e2]⟩ else ⟨e', by rw [if_neg e1, if_neg e2]; exact hj⟩), [b, root], k.wl, fun j e' hj hjb hjr => ?_⟩
    · rcases cls j e' hje with ⟨rfl, _⟩ | ⟨_, f, hf, _⟩
      · omega
      · exact ⟨f, hf⟩
    · by_cases hjn : j = m.n
      · subst hjn; rw [Env.add_same] at hz; cases hz
        refine ⟨Nat.le_refl _, ?_⟩
        rcases hy with ⟨hyx, _⟩ | hyx
        · exact .inr ⟨b, _, x, hl, hb, hyx.symm⟩
        · exact .inl hyx
      · have := back j z hjn hz; rw [hj] at this; cases this
    · simp only [List.mem_cons, List.not_mem_nil, or_false, not_or] at hjb hjr
      have hjn := (h.ids j e' hj).1
      exact ⟨by rw [k.ent, if_neg (by omega), if_neg (Ne.symm hjb.1)]; exact hj, k.lin2 _ hjr.2⟩

end Go.Proofs.YtdjpjmojmppjkaaGreat.Eng

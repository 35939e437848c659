/- Calls: what several orders come to; and calls within calls. -/
import Derived.Test.YtdjpjmojmppjkaaGreatSound5
namespace Go.Proofs.YtdjpjmojmppjkaaGreat.Eng
open Go

theorem trep_restrict {E E' : Env} (hE : E.le E') {ts : T V} {nt : Nat} {a a' : Array Value} (h : trep E ts nt a) (h' : trep E' ts nt a') : trep E ts nt a' := by
  refine ⟨h'.1, fun i hi => ?_, h'.2.2⟩
  obtain ⟨x, _, hr⟩ := h.2.1 i hi
  obtain ⟨x', hx', hr'⟩ := h'.2.1 i hi
  have := rep_mono hE _ _ hr
  rw [hr'] at this; cases this
  exact ⟨_, hx', hr⟩
theorem orep_restrict {E E' : Env} (hE : E.le E') {e : EB} {a : AO} {o o' : Obj} (h : orep E e a o) (h' : orep E' e a o') : orep E e a o' := by
  cases a with
  | cells cs =>
    obtain ⟨c, t, fz, u, h1, h2, h3, h4, h5⟩ := h
    obtain ⟨c', t', fz', u', k1, k2, k3, k4, k5⟩ := h'
    have := reps_mono hE _ _ h4
    rw [k4] at this; cases this
    exact ⟨c', t', fz', _, k1, k2, k3, h4, k5⟩
  | map es clock =>
    obtain ⟨l, h1, h2⟩ := h
    obtain ⟨l', k1, k2⟩ := h'
    have := ereps_mono hE _ _ h1
    rw [k1] at this; cases this
    exact ⟨_, h1, k2⟩
  | iter m since seen st =>
    obtain ⟨x, h1, h2⟩ := h
    obtain ⟨x', k1, k2⟩ := h'
    have := hE _ _ h1
    rw [k1] at this; cases this
    exact ⟨_, h1, k2⟩
  | iter0 => exact h'
  | dfd tk => exact h'
  | loop st pe fn ts nt ps asg body df =>
    obtain ⟨a, x, h1, h2, h3⟩ := h
    obtain ⟨a', x', k1, k2, k3⟩ := h'
    have := hE _ _ h2
    rw [k2] at this; cases this
    exact ⟨a', _, trep_restrict hE h1 k1, h2, k3⟩

theorem bare_rep {E E' : Env} {v : V} {u : Value} (hb : bare v = true) (h : rep E v = some u) : rep E' v = some u := by
  cases v <;> simp only [bare, Bool.false_eq_true] at hb <;> exact h
theorem bare_reps {E E' : Env} : ∀ {l : List V} {u : List Value}, l.all bare = true → reps E l = some u → reps E' l = some u
  | [], _, _, h => h
  | v :: l, u, hb, h => by
    simp only [List.all_cons, Bool.and_eq_true] at hb
    obtain ⟨x, us, rfl, h1, h2⟩ := reps_inv h
    exact reps_cons (bare_rep hb.1 h1) (bare_reps hb.2 h2)
theorem bare_eq {n : Nat} {a b : V} (ha : bare a = true) (h : veqB n a b = true) : a = b := by
  cases n with
  | zero => simp [veqB] at h
  | succ n =>
    cases a <;> simp only [bare, Bool.false_eq_true] at ha <;> cases b <;> simp only [veqB, Bool.false_eq_true] at h
    case bool.bool a b => cases a <;> cases b <;> simp_all
    case int.int k a j b =>
      simp only [Bool.and_eq_true] at h
      rw [keq_eq h.1]
      have h2 := h.2
      rw [ieq_eq] at h2
      simp at h2; rw [h2]
    case str.str a b =>
      rw [beqs_eq] at h
      simp at h; rw [h]
theorem bare_eqs {n : Nat} : ∀ {a b : List V}, a.all bare = true → veqB.allB (veqB n) a b = true → a = b
  | [], [], _, _ => rfl
  | [], _ :: _, _, h => by simp [veqB.allB] at h
  | _ :: _, [], _, h => by simp [veqB.allB] at h
  | v :: l, x :: r, ha, h => by
    simp only [List.all_cons, Bool.and_eq_true] at ha
    simp only [veqB.allB, Bool.cond_eq_ite] at h
    split at h
    · rename_i h1
      rw [bare_eq ha.1 h1, bare_eqs ha.2 h]
    · cases h
theorem optEq_eq {a b : Option Nat} (h : optEq a b = true) : a = b := by
  cases a <;> cases b <;> simp_all [optEq]

section
variable {P : Program} {E E' : Env} {m m' m0 m1 : M} {w w' w1 : World} {s s' : St} {a : Act}

theorem Rel.ext' {n' : Nat} (h : Rel E m w) (le : E.le E') (dom : ∀ b x, E' b = some x → E b = none → b < n' ∧ m.n ≤ b ∧ x.r < w'.heap.size)
    (hn : m.n ≤ n') (hc : n' ≤ 65536) (hw : ∀ b e x, look m b = some e → E b = some x → ∃ o, w'.heap[x.r]? = some o ∧ orep E x e.o o) (hs : w.heap.size ≤ w'.heap.size) : Rel E' { m with n := n' } w' := by
  have back : ∀ b e x, look m b = some e → E' b = some x → E b = some x := by
    intro b e x hb hx
    obtain ⟨y, o, hy, _⟩ := h.obj b e hb
    have := le b y hy; rw [hx] at this; cases this; exact hy
  have lk : ∀ b, look { m with n := n' } b = look m b := fun b => rfl
  refine ⟨fun b x hx => ?_, hc, fun b e he => ?_, fun b e he => ?_, fun b b' e e' x x' he he' hx hx' => ?_, fun b b' e e' x x' he he' hx hx' => ?_, fun b e nw fl he => ?_, fun b b' e e' => h.solo b b' e e', h.rt⟩
  · cases hb : E b with
    | none => exact ⟨(dom b x hx hb).1, (dom b x hx hb).2.2⟩
    | some y =>
      have := le b y hb; rw [hx] at this; cases this
      exact ⟨Nat.lt_of_lt_of_le (h.dom b _ hb).1 hn, Nat.lt_of_lt_of_le (h.dom b _ hb).2 hs⟩
  · exact ⟨Nat.lt_of_lt_of_le (h.ids b e he).1 hn, Nat.lt_of_lt_of_le (h.ids b e he).2 hn⟩
  · rw [lk] at he
    obtain ⟨x, o, hx, ho, hr⟩ := h.obj b e he
    obtain ⟨o', ho', hr'⟩ := hw b e x he hx
    exact ⟨x, o', le b x hx, ho', orep_mono le hr'⟩
  · rw [lk] at he he'
    exact h.one b b' e e' x x' he he' (back b e x he hx) (back b' e' x' he' hx')
  · rw [lk] at he he'
    exact h.ends b b' e e' x x' he he' (back b e x he hx) (back b' e' x' he' hx')
  · rw [lk] at he
    exact h.new b e nw fl he

theorem foldl_max_le (l : List (V × M)) : ∀ (i : Nat), i ≤ l.foldl (fun n q => max n q.2.n) i := by
  induction l with
  | nil => intro i; exact Nat.le_refl _
  | cons q l ih => intro i; exact Nat.le_trans (Nat.le_max_left _ _) (ih _)

/-- A call that wrote nothing that was there. -/
theorem plain_ok {v : V} {u : Value} {pl : Pl} {n : Nat} (h : Rel E m w) (hp : plain m (v, m1) = some pl) (hr : rep E' v = some u) (h1 : Rel E' m1 w') (st : Step E m w E' m1 w') (hn : m.n ≤ n) (hc : n < 65536) :
    ∃ E2, rep E2 (plMem m n pl).1 = some u ∧ Rel E2 (plMem m n pl).2 w' ∧ Step E m w E2 (plMem m n pl).2 w' := by
  unfold plain at hp
  obtain ⟨hlog, hp⟩ := cond_some hp
  obtain ⟨l, hl, hk⟩ := st.log
  have hall : ∀ b ∈ l, m.n ≤ b := by
    rw [hl] at hlog
    intro b hb
    have e : ((l ++ m.wl).length - m.wl.length) = l.length := by simp
    rw [e, List.take_left] at hlog
    exact Nat.le_of_ble_eq_true (List.all_eq_true.1 hlog b hb)
  have old : ∀ b e, look m b = some e → look m1 b = some e := by
    intro b e he
    rw [look_eq] at he ⊢
    have hid := h.ids b e he.1
    obtain ⟨k1, k2⟩ := hk b e he.1 (fun hb => by have := hall b hb; omega) (fun hb => by have := hall _ hb; omega)
    refine ⟨k1, ?_⟩
    have h2 := he.2
    unfold alive at h2 ⊢
    rw [k2]; exact h2
  have hobj : ∀ b e x, look m b = some e → E b = some x → ∃ o, w'.heap[x.r]? = some o ∧ orep E x e.o o := by
    intro b e x he hx
    obtain ⟨o, ho, hr⟩ := obj_eq h1 (old b e he) (st.le b x hx)
    obtain ⟨o0, ho0, hr0⟩ := obj_eq h he hx
    exact ⟨o, ho, orep_restrict st.le hr0 hr⟩
  cases hb : bare v with
  | true =>
    rw [hb] at hp
    cases hp
    refine ⟨E, bare_rep hb hr, h.ext' (n' := n) E.le_refl (fun b x hx hn => by rw [hn] at hx; cases hx) hn (by omega) hobj st.size, ?_⟩
    exact ⟨E.le_refl, hn, fun b e _ he => ⟨e, he⟩, fun b x hx hn => (by rw [hn] at hx; cases hx), st.frame, st.size, st.os, st.tape, st.output, fun b _ hn => hn, fun b e he => ⟨e, he⟩, [], rfl, fun b e he _ _ => ⟨he, rfl⟩⟩
  | false =>
    rw [hb] at hp
    dsimp only [cond_false] at hp
    split at hp
    case h_2 => cases hp
    rename_i b len cap sz _
    split at hp
    case h_2 => cases hp
    rename_i cs root al hlk
    obtain ⟨hc1, hp⟩ := cond_some hp
    cases hp
    simp only [Bool.and_eq_true, Nat.ble_eq] at hc1
    obtain ⟨⟨hb1, hb2⟩, hb3⟩ := hc1
    obtain ⟨x, o, hx, ho, hor⟩ := h1.obj b _ hlk
    have hu := h.unmapped hn
    have hle := E.le_add x hu
    have hor' : orep (E.add n x) x (.cells cs) o := by
      obtain ⟨c, t, fz, us, k1, k2, k3, k4, k5⟩ := hor
      exact ⟨c, t, fz, us, k1, k2, k3, bare_reps hb3 k4, k5⟩
    have r1 : Rel (E.add n x) { m with n := n + 1 } w' := h.ext' (n' := n + 1) hle (fun b' y hy hn' => by
        by_cases e : b' = n
        · subst e; rw [Env.add_same] at hy; cases hy; exact ⟨by omega, hn, (h1.dom b _ hx).2⟩
        · rw [Env.add_other E x e] at hy; rw [hn'] at hy; cases hy) (by omega) (by omega) hobj st.size
    have r2 := r1.put (b := n) (Env.add_same _ _ _) ho hor' (fun b' e' x' hb' hx' hrr => by
        have hb2' : look m b' = some e' := hb'
        obtain ⟨y, o', hy, _⟩ := h.obj b' e' hb2'
        have := hle b' y hy; rw [hx'] at this; cases this
        have hid := h.ids b' e' (look_eq.1 hb2').1
        have := (h1.one b' b e' _ x' x (old _ _ hb2') hlk (st.le _ _ hy) hx hrr (by omega)).2.2
        dsimp only at this
        omega) (fun b' e' hb' hrt => by have := (h.ids b' e' hb').2; omega)
    refine ⟨E.add n x, ?_, r2, ?_⟩
    · simp only [rep, hx, Option.bind_some] at hr
      simp only [plMem, rep, Env.add_same, Option.bind_some]
      exact hr
    · have lk : ∀ k, k ≠ n → ((plMem m n (.s len cap sz cs)).2.h).get DH k = m.h.get DH k := fun k hk => by
        show (m.h.set _ DH n).get DH k = _
        rw [get_h_set hc, if_neg (Ne.symm hk)]
      refine ⟨hle, Nat.le_succ_of_le hn, fun b' e hb' he => ⟨e, ?_⟩, fun b' y hy hn' => ?_, st.frame, st.size, st.os, st.tape, st.output, fun b' hb' hn' => (lk b' (by omega)).trans hn', fun b' e he => ⟨e, (lk b' (by have := (h.ids b' e he).1; omega)).trans he⟩, [], rfl, fun b' e he _ _ => ⟨(lk b' (by have := (h.ids b' e he).1; omega)).trans he, rfl⟩⟩
      · rw [look_eq] at he ⊢
        rw [lk b' (by omega)] at he
        exact ⟨he.1, he.2⟩
      · by_cases e : b' = n
        · subst e; rw [Env.add_same] at hy; cases hy
          exact ⟨hn, (st.img b _ hx (h.unmapped hb1)).2⟩
        · rw [Env.add_other E x e] at hy; rw [hn'] at hy; cases hy

theorem plEq_eq {a b : Pl} {p : V × M} (ha : plain m p = some a) (h : plEq a b = true) : a = b := by
  unfold plain at ha
  obtain ⟨_, ha⟩ := cond_some ha
  cases hb : bare p.1 with
  | true =>
    rw [hb] at ha
    cases ha
    cases b with
    | v x => rw [bare_eq hb h]
    | s => cases h
  | false =>
    rw [hb] at ha
    dsimp only [cond_false] at ha
    split at ha
    case h_2 => cases ha
    split at ha
    case h_2 => cases ha
    obtain ⟨hc1, ha⟩ := cond_some ha
    cases ha
    simp only [Bool.and_eq_true] at hc1
    cases b with
    | v x => cases h
    | s l c z cs =>
      simp only [plEq, Bool.and_eq_true] at h
      obtain ⟨⟨⟨h1, h2⟩, h3⟩, h4⟩ := h
      rw [Nat.eq_of_beq_eq_true h1, optEq_eq h2, Nat.eq_of_beq_eq_true h3, bare_eqs hc1.2 h4]

theorem plains_ok : ∀ {l : List (V × M)} {r : List Pl}, plains m l = some r → ∀ p ∈ l, ∃ a, plain m p = some a ∧ a ∈ r
  | [], _, _, p, hp => by simp at hp
  | q :: l, r, h, p, hp => by
    unfold plains at h
    split at h
    case h_2 => cases h
    rename_i a r' ha hr'
    have inr : ∀ b ∈ r', b ∈ r := by
      intro b hb
      cases hc : r'.any fun b => plEq a b with
      | true => rw [hc] at h; cases h; exact hb
      | false => rw [hc] at h; cases h; exact List.mem_cons_of_mem _ hb
    rcases List.mem_cons.1 hp with rfl | hp
    · refine ⟨a, ha, ?_⟩
      cases hc : r'.any fun b => plEq a b with
      | true =>
        rw [hc] at h; cases h
        obtain ⟨b, hb, he⟩ := List.any_eq_true.1 hc
        rw [plEq_eq ha he]; exact hb
      | false => rw [hc] at h; cases h; exact List.mem_cons_self
    · obtain ⟨b, hb, hm⟩ := plains_ok hr' p hp
      exact ⟨b, hb, inr b hm⟩

theorem mg_ok {outs r : List (V × M)} {v : V} {u : Value} (h : Rel E m w) (hg : mg m outs = some r) (hm : (v, m1) ∈ outs) (hr : rep E' v = some u) (h1 : Rel E' m1 w') (st : Step E m w E' m1 w') :
    ∃ v2 m2 E2, (v2, m2) ∈ r ∧ rep E2 v2 = some u ∧ Rel E2 m2 w' ∧ Step E m w E2 m2 w' := by
  unfold mg at hg
  split at hg
  · cases hg
  · rename_i p
    cases hg
    simp at hm; subst hm
    exact ⟨v, m1, E', by simp, hr, h1, st⟩
  · rename_i p l _
    split at hg
    case h_2 => cases hg
    rename_i pls hpl
    obtain ⟨hc, hg⟩ := cond_some hg
    cases hg
    obtain ⟨pl, hp, hin⟩ := plains_ok hpl _ hm
    obtain ⟨E2, k1, k2, k3⟩ := plain_ok h hp hr h1 st (foldl_max_le (p :: l) m.n) (by simpa using hc)
    exact ⟨_, _, E2, List.mem_map.2 ⟨pl, hin, rfl⟩, k1, k2, k3⟩

theorem callB_ok {I : Env → M → World → Prop} (hI : Keeps I) {ca : CallT} {fuel : Nat} (hca : CallOk P I ca) (hdr : ∀ ih, ExOk P I ih → RegOk P I ca ih) : CallOk P I (callB P fuel ca) := by
  intro f args m outs E w us hs h hu hi
  unfold callB at hs
  split at hs
  case h_2 => cases hs
  rename_i F hF
  unfold mkFun at hF
  split at hF
  case h_2 => cases hF
  rename_i G hG0
  have hG := funT_ok hG0
  split at hF
  case h_2 => cases hF
  rename_i body hbody
  obtain ⟨hname, hF⟩ := cond_some' hF
  cases hF
  dsimp only at hs
  obtain ⟨hb, hs⟩ := cond_some hs
  simp only [Bool.and_eq_true, Nat.ble_eq] at hb
  split at hs
  case h_2 => cases hs
  rename_i outs1 h1
  split at hs
  case h_2 => cases hs
  rename_i r hr
  have hlen := reps_length hu
  have henter : ∀ cs, lone (Frame.enter P f us.toArray .normal) cs w = lone (FR f none ⟨us.toArray ++ Array.replicate (G.ntmps - us.length) undef, []⟩ [.code body]) cs w := by
    intro cs
    simp [Frame.enter, FR, hG, hbody]
  have htrep : trep E (T.ofList DT args) G.ntmps (us.toArray ++ Array.replicate (G.ntmps - us.length) undef) := by
    have hl9 : args.length ≤ 2 ^ DT := by show _ ≤ 512; omega
    refine ⟨by simp; omega, fun i hi => ?_, hb.1, fun i hi => ?_⟩
    · rw [T.get_ofList _ _ hl9]
      rcases Nat.lt_or_ge i args.length with hlt | hge
      · obtain ⟨x, hx, hrx⟩ := reps_get hu (List.getElem?_eq_getElem hlt)
        refine ⟨x, ?_, by rw [List.getElem?_eq_getElem hlt]; exact hrx⟩
        rw [Array.getElem?_append_left (by simp; omega)]
        simpa using hx
      · refine ⟨undef, ?_, by rw [List.getElem?_eq_none hge]; rfl⟩
        rw [Array.getElem?_append_right (by simp; omega)]
        rw [Array.getElem?_replicate, if_pos (by simp; omega)]
    · rw [T.get_ofList _ _ hl9, List.getElem?_eq_none (by omega)]
  obtain ⟨ex, s1, E1, a1, w1, hm1, hr1, hst1, hfn1, hrnd1, harr1⟩ := exec_ok hI hca hdr fuel body ⟨f, none, T.ofList DT args, G.ntmps, [], m⟩ outs1 E ⟨_, []⟩ w none h1 ⟨h, htrep, trivial⟩ hi (by simp)
  obtain ⟨q, hq, hqr⟩ := mapO_mem hr _ hm1
  obtain ⟨w2, u, hu2, hrel2, hst2, hfr⟩ := leave_ok (P := P) hG hq hr1
  obtain ⟨v2, m2, E2, k1, k2, k3, k4⟩ := mg_ok h hs hqr hu2 hrel2 (hst1.trans h hst2)
  refine ⟨v2, m2, E2, w2, u, k1, fun cs => ?_, k2, k3, k4, fun xs hxs => ?_⟩
  · have pre := harr1 [] cs
    rw [henter]
    cases ex with
    | exit id => simp [leave] at hq
    | normal =>
      obtain ⟨fr, g1, g2, g3⟩ := hfr [] cs
      exact ⟨fr, Steps.trans (Steps.trans pre (.one st_end)) g1, g2, g3⟩
    | ret =>
      obtain ⟨k0, hk0⟩ := pre
      obtain ⟨fr, g1, g2, g3⟩ := hfr (.code .ret :: k0) cs
      exact ⟨fr, Steps.trans (Steps.trans hk0 (.one st_ret)) g1, g2, g3⟩
  · have hname' : ¬ G.name = "runtime.NumGoroutine" := by simpa using hname
    simp [callFunc, hG, hname', hbody]

theorem call_ok {I : Env → M → World → Prop} (hI : Keeps I) {orc : CallT} (horc : CallOk P I orc) {fuel : Nat} (hdr : ∀ ca ih, CallOk P I ca → ExOk P I ih → RegOk P I ca ih) : ∀ d, CallOk P I (callO P orc fuel d)
  | 0 => fun f args m outs E w us hs => by cases hs
  | d + 1 => fun f args m outs E w us hs h hu hi => by
    have hs' : (match orc f args m with | some r => some r | none => callB P fuel (callO P orc fuel d) f args m) = some outs := hs
    cases ho : orc f args m with
    | some r => rw [ho] at hs'; cases hs'; exact horc f args m _ E w us ho h hu hi
    | none => rw [ho] at hs'; exact callB_ok hI (call_ok hI horc hdr d) (fun ih hih => hdr _ ih (call_ok hI horc hdr d) hih) f args m outs E w us hs' h hu hi
end
end Go.Proofs.YtdjpjmojmppjkaaGreat.Eng

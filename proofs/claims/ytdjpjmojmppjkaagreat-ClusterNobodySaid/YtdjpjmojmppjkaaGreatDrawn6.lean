/- Regions that draw their order; the engine whole. -/
import Derived.Test.YtdjpjmojmppjkaaGreatDrawn5
namespace Go.Proofs.YtdjpjmojmppjkaaGreat.Eng
open Go

theorem filter_lt {p q : Nat → Bool} (hpq : ∀ x, q x = true → p x = true) : ∀ {l : List Nat} {i : Nat}, i ∈ l → p i = true → q i = false → (l.filter q).length < (l.filter p).length
  | [], _, h, _, _ => by simp at h
  | x :: l, i, h, hp, hq => by
    have mono : ∀ l : List Nat, (l.filter q).length ≤ (l.filter p).length := by
      intro l
      induction l with
      | nil => exact Nat.le_refl _
      | cons y l ih =>
        cases hqy : q y with
        | true => rw [List.filter_cons_of_pos hqy, List.filter_cons_of_pos (hpq y hqy)]; simp; exact ih
        | false =>
          rw [List.filter_cons_of_neg (by simp [hqy])]
          cases hpy : p y with
          | true => rw [List.filter_cons_of_pos hpy]; simp; omega
          | false => rw [List.filter_cons_of_neg (by simp [hpy])]; exact ih
    by_cases hxi : x = i
    · subst hxi
      rw [List.filter_cons_of_pos hp, List.filter_cons_of_neg (by simp [hq])]
      have := mono l
      simp; omega
    · have hm : i ∈ l := by rcases List.mem_cons.1 h with h | h; · exact absurd h.symm hxi
                            · exact h
      have := filter_lt hpq hm hp hq
      cases hqx : q x with
      | true => rw [List.filter_cons_of_pos hqx, List.filter_cons_of_pos (hpq x hqx)]; simp; exact this
      | false =>
        rw [List.filter_cons_of_neg (by simp [hqx])]
        cases hpx : p x with
        | true => rw [List.filter_cons_of_pos hpx]; simp; omega
        | false => rw [List.filter_cons_of_neg (by simp [hpx])]; exact this

section
variable {P : Program} {E E' E0 : Env} {m m' mD : M} {w w' w0 w1 : World} {a a' a0 : Act}

def got (listed : Array Bool) : Nat → Bool := fun j => listed.getD j false
theorem got_set {listed : Array Bool} {i : Nat} (h : i < listed.size) : got (listed.setIfInBounds i true) = plus (got listed) i := by
  funext j
  show (listed.setIfInBounds i true).getD j false = (listed.getD j false || decide (j = i))
  rw [Array.getD_eq_getD_getElem?, Array.getD_eq_getD_getElem?, Array.getElem?_setIfInBounds]
  by_cases e : i = j
  · subst e
    rw [if_pos rfl, if_pos h]; simp
  · rw [if_neg e]
    have : ¬ j = i := fun h => e h.symm
    simp [this]

theorem inv_go {I : Env → M → World → Prop} (hI : Keeps I) {ca : CallT} {ih : Code → St → R} (hca : CallOk P I ca) (hih : ExOk P I ih) {ops : Array Oper} {rs : List Rec} {snaps : List M} {s : St} (hL : RF ops.toList)
    (hcap : s.m.n + ops.toList.length ≤ 65536) (hlen : rs.length = ops.toList.length) (h0 : Rel E0 s.m w0) (hi0 : I E0 s.m w0)
    (hps : ∀ (j : Nat) (r : Rec), rs[j]? = some r → PS P ca ih ops.toList (effIdx 0 ops.toList) s.m.n s.nt s.ts rs snaps j r)
    (hp2 : pass2 P ops.toList (befs [] ops.toList) (effIdx 0 ops.toList) s.m.n rs snaps 0 rs = true) (fn : FuncId) (rr : Option Nat) : ∀ (fuel t : Nat) (listed : Array Bool) (k : Nat) (E : Env) (a : Act) (w : World),
    listed.size = ops.size → ((List.range ops.size).filter fun j => !(got listed j)).length ≤ fuel → Inv ops.toList rs snaps s E0 w0 a0 (got listed) k E a w →
    ∃ D k' E' a' w', (∀ j, D j = decide (j < ops.size)) ∧ Inv ops.toList rs snaps s E0 w0 a0 D k' E' a' w' ∧
      ∀ kk cs, Steps P (lone (FR fn rr a (.inRegion ops (Region.linearise.go .any ops fuel t listed []) :: kk)) cs w) (lone (FR fn rr a' (.inRegion ops [] :: kk)) cs w') := by
  have all : ∀ listed : Array Bool, listed.size = ops.size → ((List.range ops.size).filter fun j => !(got listed j)) = [] → ∀ j, got listed j = decide (j < ops.size) := by
    intro listed hsz he j
    rw [List.filter_eq_nil_iff] at he
    by_cases hj : j < ops.size
    · have := he j (List.mem_range.2 hj)
      simp only [hj, decide_true]
      simpa using this
    · simp only [hj, decide_false]
      unfold got
      rw [Array.getD_eq_getD_getElem?, Array.getElem?_eq_none (by omega)]; rfl
  intro fuel
  induction fuel with
  | zero =>
    intro t listed k E a w hsz hf h
    refine ⟨got listed, k, E, a, w, all listed hsz (List.eq_nil_of_length_eq_zero (by omega)), h, fun kk cs => ?_⟩
    simp only [Region.linearise.go, List.reverse_nil]
    exact .refl _ _
  | succ fuel ihf =>
    intro t listed k E a w hsz hf h
    simp only [Region.linearise.go]
    change ∃ D k' E' a' w', _ ∧ _ ∧ ∀ kk cs, Steps P (lone (FR fn rr a (.inRegion ops (match (Region.ready .any ops listed)[t % (Region.ready .any ops listed).length]? with
      | some i => Region.linearise.go .any ops fuel (t / (Region.ready .any ops listed).length) (listed.setIfInBounds i true) [i]
      | none => [].reverse) :: kk)) cs w) _
    cases hi : (Region.ready .any ops listed)[t % (Region.ready .any ops listed).length]? with
    | none =>
      have hnil : Region.ready .any ops listed = [] := by
        cases hr : Region.ready .any ops listed with
        | nil => rfl
        | cons x xs =>
          rw [hr] at hi
          have hlt : t % (x :: xs).length < (x :: xs).length := Nat.mod_lt _ (by simp)
          simp at hi
          simp at hlt
          omega
      have hfull : ((List.range ops.size).filter fun j => !(got listed j)) = [] := by
        rw [List.filter_eq_nil_iff]
        intro j
        induction j using Nat.strongRecOn with
        | _ j ihj =>
          intro hj hn
          have hjs : j < ops.size := List.mem_range.1 hj
          have hmem : j ∈ Region.ready .any ops listed := by
            unfold Region.ready
            rw [List.mem_filter]
            refine ⟨hj, ?_⟩
            have hj1 : listed.getD j true = false := by
              have : got listed j = false := by simpa using hn
              unfold got at this
              rw [Array.getD_eq_getD_getElem?, Array.getElem?_eq_getElem (by omega)] at this ⊢
              exact this
            rw [hj1, Array.getElem?_eq_getElem hjs]
            simp only [Bool.not_false, Bool.true_and, Option.map_some, Option.getD_some]
            rw [← Array.all_toList, List.all_eq_true]
            intro e he
            cases hb : Region.binds .any e with
            | false => rfl
            | true =>
              have hlt := hL.edge j ops[j] e (by rw [Array.getElem?_toList, Array.getElem?_eq_getElem hjs]) he hb
              have := ihj e.on hlt (List.mem_range.2 (by omega))
              simp only [Bool.not_true, Bool.false_or]
              simpa [got] using this
          rw [hnil] at hmem; simp at hmem
      refine ⟨got listed, k, E, a, w, all listed hsz hfull, h, fun kk cs => ?_⟩
      exact .refl _ _
    | some i =>
      have hmem : i ∈ Region.ready .any ops listed := List.mem_of_getElem? hi
      unfold Region.ready at hmem
      rw [List.mem_filter] at hmem
      obtain ⟨hr, hcond⟩ := hmem
      have his : i < ops.size := List.mem_range.1 hr
      rw [Array.getElem?_eq_getElem his] at hcond
      simp only [Option.map_some, Option.getD_some, Bool.and_eq_true, Bool.not_eq_true'] at hcond
      have hD : got listed i = false := by
        have := hcond.1
        unfold got
        rw [Array.getD_eq_getD_getElem?, Array.getElem?_eq_getElem (by omega)] at this ⊢
        exact this
      have hrd : ∀ e ∈ (ops[i]).after.toList, bindsB e = true → got listed e.on = true := by
        intro e he hb
        have h2 := hcond.2
        rw [← Array.all_toList, List.all_eq_true] at h2
        have := h2 e he
        have hb' : Region.binds .any e = true := hb
        rw [hb'] at this
        unfold got
        simpa using this
      obtain ⟨k1, E1, a1, w1, hinv, hst⟩ := inv_step hI hca hih hL hcap hlen h0 hi0 hps hp2 h (Array.getElem?_eq_getElem his) hD hrd fn rr
      rw [← got_set (by omega)] at hinv
      obtain ⟨D, k2, E2, a2, w2, h3, h4, h5⟩ := ihf (t / (Region.ready .any ops listed).length) (listed.setIfInBounds i true) k1 E1 a1 w1 (by simp [hsz]) (by
        have hlt := filter_lt (p := fun j => !(got listed j)) (q := fun j => !(got (listed.setIfInBounds i true) j)) (fun x hx => by
          rw [got_set (by omega)] at hx
          simp [plus] at hx ⊢; exact hx.1) hr (by simp [hD]) (by rw [got_set (by omega), plus_self]; rfl)
        omega) hinv
      refine ⟨D, k2, E2, a2, w2, h3, h4, fun kk cs => ?_⟩
      simp only []
      rw [linearise_go_acc, List.reverse_singleton, List.singleton_append]
      exact (hst _ kk cs).trans (h5 kk cs)

theorem drawn_ok (hm : P.follows .mixedOrders = true) {I : Env → M → World → Prop} (hI : Keeps I) {ca : CallT} {ih : Code → St → R} (hca : CallOk P I ca) (hih : ExOk P I ih) : RegOk P I ca ih := by
  intro id ops s outs E a w rr hs h hi
  unfold drawn at hs
  obtain ⟨hc, hs⟩ := cond_some hs
  simp only [Bool.and_eq_true, Nat.ble_eq] at hc
  obtain ⟨hreg, hcap⟩ := hc
  have hL := regOk_spec hreg
  split at hs
  case h_2 => cases hs
  rename_i rs snaps tsF hp1
  obtain ⟨hp2, hs⟩ := cond_some hs
  split at hs
  case h_2 => cases hs
  rename_i mF hmF
  cases hs
  rw [nth_eq] at hmF
  have hsl0 : Slots s.ts (· < ([] : List Rec).length) [] s.ts := ⟨fun j r hj => by simp at hj, fun t _ => rfl⟩
  obtain ⟨_, ⟨y, hy⟩, hlen, hsn, hslF, hps⟩ := pass1_spec (P := P) (ca := ca) (ih := ih) (n0 := s.m.n) hL h.t.2.2.1 ops.toList 0 [] [{ s.m with n := s.m.n + ops.toList.length }] s.ts rfl rfl (fun j r hj => by simp at hj) hsl0 ⟨[], rfl, rfl⟩ hp1
  have hsnap0 : snaps[0]? = some { s.m with n := s.m.n + ops.toList.length } := by rw [hy]; rfl
  have relB : Rel E { s.m with n := s.m.n + ops.toList.length } w.drew := h.m.ext E.le_refl (fun b x hx hn => by rw [hn] at hx; cases hx) (Nat.le_add_right _ _) hcap (fun _ _ _ _ _ => rfl) (Nat.le_refl _)
  have stB : Step E s.m w E { s.m with n := s.m.n + ops.toList.length } w.drew := { (drawnStep : Step E s.m w E s.m w.drew) with n := Nat.le_add_right _ _ }
  have hgot0 : ∀ j, got (Array.replicate ops.size false) j = false := by
    intro j
    unfold got
    rw [Array.getD_eq_getD_getElem?, Array.getElem?_replicate]
    split <;> rfl
  have inv0 : Inv ops.toList rs snaps s E w a (got (Array.replicate ops.size false)) 0 E a w.drew := by
    refine ⟨fun i hi => (by rw [hgot0] at hi; cases hi), fun p e he => (by rw [hgot0]; simp), Nat.zero_le _, ⟨_, _, hsnap0, Nat.le_refl _, ?_, relB, stB⟩, ⟨s.ts, ⟨fun j r hj => (by rw [hgot0] at hj; cases hj), fun t _ => rfl⟩, h.t⟩, rfl, fun j _ hj => ⟨h.m.unmapped (Nat.le_add_right _ _), fun m hm => ?_⟩⟩
    · exact ⟨rfl, rfl, rfl, fun _ _ hh => hh, fun j b _ hd => (by rw [hgot0] at hd; cases hd), fun k e he => .inl he⟩
    · rw [hsnap0] at hm; cases hm
      show s.m.h.get DH (s.m.n + j) = none
      cases hh : s.m.h.get DH (s.m.n + j) with
      | none => rfl
      | some e => have := (h.m.ids _ _ hh).1; omega
  obtain ⟨D, k, E', a', w', hD, hinv, hst⟩ := inv_go hI hca hih hL hcap hlen h.m hi (fun j r hr => hps j r (Nat.zero_le _) hr) hp2 s.fn rr ops.size (w.tape w.drawn (.order s.fn id)) (Array.replicate ops.size false) 0 E a w.drew (by simp) (by
    refine Nat.le_trans (List.length_filter_le _ _) ?_
    simp) inv0
  obtain ⟨m, mD, hmk, hmn, fD, relD, stD⟩ := hinv.mem
  have hk : k = (effIdx 0 ops.toList).length := by
    rcases Nat.lt_or_ge k (effIdx 0 ops.toList).length with hlt | hge
    · have he := List.getElem?_eq_getElem hlt
      obtain ⟨o', _, h2, _⟩ := effIdx_mem (List.mem_of_getElem? he)
      have hlt2 := (List.getElem?_eq_some_iff.1 h2).1
      have := (hinv.pre k _ he).1 (by rw [hD]; simp at hlt2 ⊢; omega)
      omega
    · have := hinv.klen; omega
  rw [hk] at hmk
  rw [hmF] at hmk; cases hmk
  have fF : Fits s.m.n (bit (2 ^ ops.toList.length - 1)) rs mF (allocs s.m.n (2 ^ ops.toList.length - 1) mF 0 rs) := allocs_fits (by omega)
  have fD' : Fits s.m.n (bit (2 ^ ops.toList.length - 1)) rs mF mD := fD.same (fun j b hb => by
    have hjl : j < rs.length := by
      unfold al at hb
      cases hr : rs[j]? with
      | none => rw [hr] at hb; cases hb
      | some r => exact (List.getElem?_eq_some_iff.1 hr).1
    rw [bit_eq, Nat.testBit_two_pow_sub_one, hD]
    simp)
  have meq := fD'.meq fF
  obtain ⟨ts, hsl, htr⟩ := hinv.ts
  have tseq : ∀ t, ts.get DT t = tsF.get DT t := by
    intro t
    by_cases hx : ∃ (j : Nat) (r : Rec), rs[j]? = some r ∧ r.o.dst = some t
    · obtain ⟨j, r, hj, hd⟩ := hx
      have hjl := (List.getElem?_eq_some_iff.1 hj).1
      rw [hsl.done j r (by rw [hD]; simp at hlen; simp; omega) hj t hd, hslF.done j r hjl hj t hd]
    · rw [hsl.rest t (fun j r _ hj hd => hx ⟨j, r, hj, hd⟩), hslF.rest t (fun j r _ hj hd => hx ⟨j, r, hj, hd⟩)]
  refine ⟨_, E', a', w', List.mem_singleton.2 rfl, ⟨relD.congr meq, trep_congr htr tseq, ?_⟩, stD.more h.m (fun b _ => (meq.h b).symm) meq.lin.symm meq.n.symm meq.wl.symm, rfl, rfl, fun kk cs => ?_⟩
  · rw [hinv.df]; exact drep_mono stD.le h.d
  · have s1 := st_region_draw (P := P) (fn := s.fn) (rnd := rr) (a := a) (k := kk) (cs := cs) (w := w) (ops := ops) (id := id)
    refine Steps.trans (.one s1) (Steps.trans ?_ (.one (st_region_end (ops := ops))))
    have := hst kk cs
    simpa only [Region.schedule, hm, Bool.true_or, if_true, Region.linearise] using this

theorem engine_ok (hm : P.follows .mixedOrders = true) {I : Env → M → World → Prop} (hI : Keeps I) {orc : CallT} (horc : CallOk P I orc) (fuel d : Nat) : CallOk P I (callO P orc fuel d) := call_ok hI horc (fun _ _ hca hih => drawn_ok hm hI hca hih) d
theorem engine_ok' (hm : P.follows .mixedOrders = true) (fuel d : Nat) : CallOk P (fun _ _ _ => True) (call P fuel d) := engine_ok hm ⟨fun _ _ _ _ _ _ _ _ _ => trivial, fun _ _ _ _ _ _ => trivial⟩ (fun _ _ _ _ _ _ _ h => by cases h) fuel d

def okRun (r : Option (List (V × M))) : Bool := match r with
  | some l => l.all fun p => match p.1 with | .bool true => true | _ => false
  | none => false

end
end Go.Proofs.YtdjpjmojmppjkaaGreat.Eng

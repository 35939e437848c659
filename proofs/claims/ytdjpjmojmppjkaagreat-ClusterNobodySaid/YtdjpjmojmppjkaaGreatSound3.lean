/- Operations one behind the other. -/
import Derived.Test.YtdjpjmojmppjkaaGreatSound2
namespace Go.Proofs.YtdjpjmojmppjkaaGreat.Eng
open Go

section
variable {P : Program} {E E' : Env} {m m' : M} {w w' w1 : World} {s s' : St} {a : Act}

theorem Rel.take {b : Nat} {x : EB} {ob : Obj} {ao : AO} (h : Rel E m w) (hb : b < m.n) (hn : m.h.get DH b = none) (he : E b = none) (nw : New w w1 ob) (hx : x.r = w.heap.size) (hr : orep (E.add b x) x ao ob) :
    Rel (E.add b x) { m with h := m.h.set ⟨ao, b, false⟩ DH b } w1 := by
  have hle := E.le_add x he
  have hlt : b < 65536 := Nat.lt_of_lt_of_le hb h.cap
  have rel1 : Rel (E.add b x) { m with n := m.n } w1 := by
    refine ⟨fun b' y hy => ?_, h.cap, h.ids, fun b' e' he' => ?_, fun b1 b2 e1 e2 x1 x2 h1 h2 hx1 hx2 => ?_, fun b1 b2 e1 e2 x1 x2 h1 h2 hx1 hx2 => ?_, h.new, h.solo, h.rt⟩
    · by_cases e : b' = b
      · subst e; rw [Env.add_same] at hy; cases hy; exact ⟨hb, by rw [hx, nw.size]; omega⟩
      · rw [Env.add_other E x e] at hy; have := h.dom b' y hy; exact ⟨this.1, by rw [nw.size]; omega⟩
    · obtain ⟨y, o, hy, ho, hrr⟩ := h.obj b' e' he'
      exact ⟨y, o, hle _ _ hy, (nw.old _ (h.dom _ _ hy).2).trans ho, orep_mono hle hrr⟩
    · have back : ∀ b' e' y, look m b' = some e' → E.add b x b' = some y → E b' = some y := fun b' e' y h1 h2 => by
        obtain ⟨y', o, hy, _⟩ := h.obj b' e' h1
        have := hle _ _ hy; rw [h2] at this; cases this; exact hy
      exact h.one b1 b2 e1 e2 x1 x2 h1 h2 (back _ _ _ h1 hx1) (back _ _ _ h2 hx2)
    · have back : ∀ b' e' y, look m b' = some e' → E.add b x b' = some y → E b' = some y := fun b' e' y h1 h2 => by
        obtain ⟨y', o, hy, _⟩ := h.obj b' e' h1
        have := hle _ _ hy; rw [h2] at this; cases this; exact hy
      exact h.ends b1 b2 e1 e2 x1 x2 h1 h2 (back _ _ _ h1 hx1) (back _ _ _ h2 hx2)
  refine rel1.put (Env.add_same _ _ _) (by rw [hx]; exact nw.new) hr (fun b' e' x' hb' hx' hrr => ?_) (fun b' e' hb' hrt => ?_)
  · have hb2 : look m b' = some e' := hb'
    obtain ⟨y, o', hy, _⟩ := h.obj b' e' hb2
    have := hle b' y hy; rw [hx'] at this; cases this
    have := (h.dom b' _ hy).2
    omega
  · obtain ⟨e2, h2⟩ := h.rt b' e' hb'
    rw [hrt, hn] at h2; cases h2

theorem Step.take {E0 : Env} {m0 : M} {w0 : World} {b : Nat} {x : EB} {ob : Obj} {ao : AO} (st : Step E0 m0 w0 E m w) (h0 : Rel E0 m0 w0) (hb : b < m.n) (hge : m0.n ≤ b) (hlt : b < 65536) (he : E b = none) (nw : New w w1 ob) (hx : x.r = w.heap.size) :
    Step E0 m0 w0 (E.add b x) { m with h := m.h.set ⟨ao, b, false⟩ DH b } w1 := by
  have hle := E.le_add x he
  have lk : ∀ k, k ≠ b → ({ m with h := m.h.set ⟨ao, b, false⟩ DH b } : M).h.get DH k = m.h.get DH k := fun k hk => by
    show (m.h.set _ DH b).get DH k = _
    rw [get_h_set hlt, if_neg (Ne.symm hk)]
  refine ⟨Env.le_trans st.le hle, st.n, fun k e hk hl => ?_, fun k y hy hn => ?_, fun r hr hf => ?_, by have := st.size; have := nw.size; omega, nw.os.trans st.os, nw.tape.trans st.tape, nw.output.trans st.output, fun k hk hn => ?_, fun k e hk => ?_, ?_⟩
  · refine st.shrink k e hk ?_
    rw [look_eq] at hl ⊢
    rw [lk k (by omega)] at hl
    exact ⟨hl.1, hl.2⟩
  · by_cases e : k = b
    · subst e; rw [Env.add_same] at hy; cases hy; exact ⟨hge, .inl (by have := st.size; omega)⟩
    · rw [Env.add_other E x e] at hy; exact st.img k y hy hn
  · rw [nw.old r (by have := st.size; omega)]; exact st.frame r hr hf
  · rw [lk k (by omega)]; exact st.raw k hk hn
  · obtain ⟨e', he'⟩ := st.keep k e hk
    exact ⟨e', by rw [lk k (by have := (h0.ids k e hk).1; omega)]; exact he'⟩
  · obtain ⟨l, hl, hk⟩ := st.log
    refine ⟨l, hl, fun k e he2 h1 h2 => ?_⟩
    rw [lk k (by have := (h0.ids k e he2).1; omega)]
    exact hk k e he2 h1 h2

theorem Rel.allocN {x : EB} {ob : Obj} {ao : AO} (h : Rel E m w) (hn : m.n < 65536) (nw : New w w1 ob) (hx : x.r = w.heap.size) (hr : ∀ F : Env, E.le F → orep F x ao ob) :
    Rel (E.add m.n x) (m.mk' ao) w1 ∧ Step E m w (E.add m.n x) (m.mk' ao) w1 := by
  have hu := h.unmapped (Nat.le_refl m.n)
  have hg : m.h.get DH m.n = none := by
    cases hh : m.h.get DH m.n with
    | none => rfl
    | some e => have := (h.ids _ _ hh).1; omega
  have r1 : Rel E { m with n := m.n + 1 } w := h.ext (E.le_refl) (fun b y hy hn => by rw [hn] at hy; cases hy) (by omega) (by omega) (fun _ _ _ _ _ => rfl) (Nat.le_refl _)
  have s1 : Step E m w E { m with n := m.n + 1 } w := { Step.refl E m w with n := Nat.le_succ _ }
  exact ⟨r1.take (Nat.lt_succ_self _) hg hu nw hx (hr _ (E.le_add x hu)), s1.take h (Nat.lt_succ_self _) (Nat.le_refl _) hn hu nw hx⟩

theorem puts_mem {dst : Option Tmp} {v : V} {m1 : M} : ∀ (l : List (V × M)) (outs : List St), s.puts dst l = some outs → (v, m1) ∈ l → ∃ s', s' ∈ outs ∧ s.put dst v m1 = some s'
  | [], _, _, hm => by simp at hm
  | (v2, m2) :: l, outs, hp, hm => by
    unfold St.puts at hp
    split at hp
    · rename_i a1 r1 h1 h2
      cases hp
      rcases List.mem_cons.1 hm with hh | hh
      · cases hh; exact ⟨a1, by simp, h1⟩
      · obtain ⟨s', hs1, hs2⟩ := puts_mem l r1 h2 hh
        exact ⟨s', by simp [hs1], hs2⟩
    · cases hp

theorem step1_ok {I : Env → M → World → Prop} (hI : Keeps I) {ca : CallT} {ih : Code → St → R} (hca : CallOk P I ca) (hih : ExOk P I ih) {ops : Array Oper} {i : Nat} {o : Oper} {outs : List St} (ho : ops[i]? = some o) (h : SRel E s a w) (hi : I E s.m w) (hs : step1 P ca ih ops.toList o s = some outs) (fn : FuncId) (rr : Option Nat) :
    ∃ s' E' a' w', s' ∈ outs ∧ SRel E' s' a' w' ∧ Step E s.m w E' s'.m w' ∧ s'.fn = s.fn ∧ s'.rnd = s.rnd ∧ ∀ rest k cs, Steps P (lone (FR fn rr a (.inRegion ops (i :: rest) :: k)) cs w) (lone (FR fn rr a' (.inRegion ops rest :: k)) cs w') := by
  unfold step1 at hs
  cases hw : wants ops.toList s.ts o.guard with
  | false =>
    rw [hw] at hs
    dsimp only [cond_false] at hs
    split at hs
    · rename_i s' hp
      cases hs
      obtain ⟨h1, h2, h3, h4⟩ := put_ok (E' := E) (w' := w) (u := undef) h hp rfl h.m E.le_refl
      refine ⟨s', E, _, w, by simp, h1, by rw [h2]; exact Step.refl _ _ _, h3, h4, fun rest k cs => .one ?_⟩
      have hw' : ((ops[i]?).map (Region.wanted · (yielded ops a.tmps))).getD false = false := by
        rw [ho]; show Region.wanted o _ = false; rw [wants_ok h.t]; exact hw
      have := st_op_skip (P := P) (fn := fn) (rnd := rr) (k := k) (cs := cs) (w := w) (rest := rest) hw'
      rw [ho] at this
      exact this
    · cases hs
  | true =>
    have hwr : Region.wanted o (yielded ops a.tmps) = true := (wants_ok h.t).trans hw
    rw [hw] at hs
    dsimp only [cond_true] at hs
    cases he : isEff o.op with
    | true =>
      rw [he] at hs
      dsimp only [cond_true] at hs
      split at hs
      case h_2 => cases hs
      rename_i vouts hv
      obtain ⟨v, m1, E', w', u, hm, hg, hr, hrel, hst⟩ := effC_ok hI hca hih h.m hi (ev_ok' h.t) (fn := fn) (rnd := rr) ho hwr hv he
      obtain ⟨s', hs1, hs2⟩ := puts_mem _ _ hs hm
      obtain ⟨h1, h2, h3, h4⟩ := put_ok h hs2 hr hrel hst.le
      exact ⟨s', E', _, w', hs1, h1, by rw [h2]; exact hst, h3, h4, fun rest k cs => hg rest k cs⟩
    | false =>
      rw [he] at hs
      dsimp only [cond_false] at hs
      split at hs
      · rename_i v hf
        split at hs
        · rename_i s' hp
          cases hs
          obtain ⟨u, hrun, hu⟩ := (flt_ok h.m (ev_ok' h.t) o hf).v v rfl
          obtain ⟨h1, h2, h3, h4⟩ := put_ok (E' := E) (w' := w) h hp hu h.m E.le_refl
          exact ⟨s', E, _, w, by simp, h1, by rw [h2]; exact Step.refl _ _ _, h3, h4, fun rest k cs => .one (st_op_value ho hwr (flt_notdefer hf) hrun)⟩
        · cases hs
      · rename_i ao kf hf
        obtain ⟨hb, hs⟩ := cond_some hs
        split at hs
        · rename_i s' hp
          cases hs
          obtain ⟨ob, u, xb, w1, hrun, nw, hxb, hor, hu⟩ := (flt_ok h.m (ev_ok' h.t) o hf).a ao kf rfl
          obtain ⟨hrel, hst⟩ := h.m.allocN (by simpa using hb) nw hxb (fun F hF => orep_mono hF hor)
          obtain ⟨h1, h2, h3, h4⟩ := put_ok h hp (hu _ _ (Env.add_same _ _ _)) hrel hst.le
          exact ⟨s', _, _, w1, by simp, h1, by rw [h2]; exact hst, h3, h4, fun rest k cs => .one (st_op_value ho hwr (flt_notdefer hf) hrun)⟩
        · cases hs
      · rename_i hf
        obtain ⟨bb, hrun⟩ := (flt_ok h.m (ev_ok' h.t) o hf).b rfl
        have hm : (V.bool bb, s.m) ∈ [(V.bool true, s.m), (V.bool false, s.m)] := by cases bb <;> simp
        obtain ⟨s', hs1, hs2⟩ := puts_mem _ _ hs hm
        obtain ⟨h1, h2, h3, h4⟩ := put_ok (E' := E) (w' := w) (u := .bool bb) h hs2 rfl h.m E.le_refl
        exact ⟨s', E, _, w, hs1, h1, by rw [h2]; exact Step.refl _ _ _, h3, h4, fun rest k cs => .one (st_op_value ho hwr (flt_notdefer hf) hrun)⟩
      · cases hs

theorem joinK {k : St → Option (List St)} {l : List St} {r : List St} (h : (match (some l : Option (List St)) with | some [s'] => k s' | some outs => joinO k outs | none => none) = some r) : ∀ x ∈ l, ∃ y, k x = some y ∧ ∀ z ∈ y, z ∈ r := by
  intro x hx
  split at h
  · rename_i s' heq
    cases heq
    simp at hx; subst hx
    exact ⟨r, h, fun _ hz => hz⟩
  · rename_i outs _ heq
    cases heq
    exact joinO_mem h x hx
  · cases h

theorem seqOps_ok {I : Env → M → World → Prop} (hI : Keeps I) {ca : CallT} {ih : Code → St → R} (hca : CallOk P I ca) (hih : ExOk P I ih) {ops : Array Oper} (fn : FuncId) (rr : Option Nat) : ∀ (l : List Oper) (i0 : Nat) (s : St) (E : Env) (a : Act) (w : World) (outs : List St), (∀ j, l[j]? = ops[i0 + j]?) → SRel E s a w → I E s.m w → seqOps P ca ih ops.toList l s = some outs →
    ∃ s' E' a' w', s' ∈ outs ∧ SRel E' s' a' w' ∧ Step E s.m w E' s'.m w' ∧ s'.fn = s.fn ∧ s'.rnd = s.rnd ∧ ∀ k cs, Steps P (lone (FR fn rr a (.inRegion ops (List.range' i0 l.length) :: k)) cs w) (lone (FR fn rr a' k) cs w')
  | [], i0, s, E, a, w, outs, hl, h, hi, hs => by
    have : [s] = outs := by simpa [seqOps] using hs
    subst this
    exact ⟨s, E, a, w, by simp, h, Step.refl _ _ _, rfl, rfl, fun k cs => .one st_region_end⟩
  | o :: l, i0, s, E, a, w, outs, hl, h, hi, hs => by
    have h0 : ops[i0]? = some o := by simpa using (hl 0).symm
    have hs' : (match step1 P ca ih ops.toList o s with | some [s'] => seqOps P ca ih ops.toList l s' | some outs => joinO (seqOps P ca ih ops.toList l) outs | none => none) = some outs := (seqOps_cons P ca ih ops.toList o l s).symm.trans hs
    cases h1 : step1 P ca ih ops.toList o s with
    | none => rw [h1] at hs'; cases hs'
    | some outs1 =>
      rw [h1] at hs'
      obtain ⟨s1, E1, a1, w1, hm1, hr1, hst1, hfn1, hrnd1, hsteps1⟩ := step1_ok hI hca hih h0 h hi h1 fn rr
      obtain ⟨y, hy, hz⟩ := joinK hs' s1 hm1
      obtain ⟨s2, E2, a2, w2, hm2, hr2, hst2, hfn2, hrnd2, hsteps2⟩ := seqOps_ok hI hca hih fn rr l (i0 + 1) s1 E1 a1 w1 y (fun j => by have := hl (j + 1); simpa [Nat.add_assoc, Nat.add_comm 1 j] using this) hr1 (hI.step _ _ _ _ _ _ h.m hst1 hi) hy
      refine ⟨s2, E2, a2, w2, hz _ hm2, hr2, hst1.trans h.m hst2, hfn2.trans hfn1, hrnd2.trans hrnd1, fun k cs => ?_⟩
      rw [List.length_cons, List.range'_succ]
      exact (hsteps1 _ k cs).trans (hsteps2 k cs)

/-- A region is done. -/
def RegOk (P : Program) (I : Env → M → World → Prop) (ca : CallT) (ih : Code → St → R) : Prop := ∀ (id : Nat) (ops : Array Oper) (s : St) (outs : List St) (E : Env) (a : Act) (w : World) (rr : Option Nat), drawn P ca ih ops.toList s = some outs → SRel E s a w → I E s.m w →
    ∃ s' E' a' w', s' ∈ outs ∧ SRel E' s' a' w' ∧ Step E s.m w E' s'.m w' ∧ s'.fn = s.fn ∧ s'.rnd = s.rnd ∧ ∀ k cs, Steps P (lone (FR s.fn rr a (.code (.region id ops true) :: k)) cs w) (lone (FR s.fn rr a' k) cs w')

theorem region_ok {I : Env → M → World → Prop} (hI : Keeps I) {ca : CallT} {ih : Code → St → R} (hca : CallOk P I ca) (hih : ExOk P I ih) (hdr : RegOk P I ca ih) (id : Nat) (ops : Array Oper) (draw : Bool) (s : St) (outs : List St) (E : Env) (a : Act) (w : World) (rr : Option Nat) (hs : region P ca ih ops.toList draw s = some outs) (h : SRel E s a w) (hi : I E s.m w) :
    ∃ s' E' a' w', s' ∈ outs ∧ SRel E' s' a' w' ∧ Step E s.m w E' s'.m w' ∧ s'.fn = s.fn ∧ s'.rnd = s.rnd ∧ ∀ k cs, Steps P (lone (FR s.fn rr a (.code (.region id ops draw) :: k)) cs w) (lone (FR s.fn rr a' k) cs w') := by
  cases draw with
  | true => exact hdr id ops s outs E a w rr hs h hi
  | false =>
    obtain ⟨s', E', a', w', h1, h2, h3, h4, h5, h6⟩ := seqOps_ok hI hca hih (ops := ops) s.fn rr ops.toList 0 s E a w outs (by simp) h hi hs
    refine ⟨s', E', a', w', h1, h2, h3, h4, h5, fun k cs => Steps.trans (.one st_region) ?_⟩
    have := h6 k cs
    rwa [Array.length_toList, ← List.range_eq_range'] at this
end
end Go.Proofs.YtdjpjmojmppjkaaGreat.Eng

/- What these operations tell is what the model tells. -/
import Derived.Test.YtdjpjmojmppjkaaGreatFlt
namespace Go.Proofs.YtdjpjmojmppjkaaGreat.Eng
open Go

section
variable {P : Program} {E : Env} {m : M} {w : World}

theorem add_addr (b o j : Nat) : (⟨b, o, none⟩ : Addr).add j = ⟨b, o + j, none⟩ := by
  unfold Addr.add; split <;> simp_all

theorem run_underlying {t : TypeId} {d : TypeDesc} (h : P.underlying t = some d) (w : World) : (underlying t).run P w = .ok d w := by
  simp [underlying, h]
theorem run_typeInfo {t : TypeId} {i : TypeInfo} (h : P.info? t = some i) (w : World) : (typeInfo t).run P w = .ok i w := by
  simp [typeInfo, h]
theorem run_sizeOf {t : TypeId} {y : Ty} (h : TyOk P t y) (w : World) : (sizeOf t).run P w = .ok y.size w := by
  obtain ⟨i, hi, hs, _⟩ := h.info
  simp [sizeOf, run_typeInfo hi, hs]
theorem run_zeroValue {t : TypeId} {y : Ty} {z : V} (h : TyOk P t y) (hz : y.zero = some z) (w : World) : ∃ Z, (zeroValue t).run P w = .ok Z w ∧ ∀ E, rep E z = some Z := by
  obtain ⟨i, hi, _, _, hzz⟩ := h.info
  obtain ⟨Z, hZ, hr⟩ := hzz z hz
  exact ⟨Z, by simp [zeroValue, run_typeInfo hi, hZ], hr⟩
theorem run_isAgg {t : TypeId} {y : Ty} (h : TyOk P t y) (w : World) : (isAgg t).run P w = .ok (aggD y.u) w := by
  unfold isAgg
  rw [Sem.run_bind, run_underlying h.u, Result.andThen_ok]
  cases y.u <;> rfl

theorem run_loadCellsFrom (b o : Nat) : ∀ (n i : Nat) (acc : Array Value) (us : List Value), us.length = n → (∀ j, j < n → w.cell? ⟨b, o + i + j, none⟩ = us[j]?) →
    (loadCellsFrom ⟨b, o, none⟩ i n acc).run P w = .ok (acc ++ us.toArray) w
  | 0, i, acc, us, hl, _ => by
    cases us with
    | nil => simp [loadCellsFrom]
    | cons _ _ => cases hl
  | n + 1, i, acc, us, hl, h => by
    cases us with
    | nil => cases hl
    | cons u us =>
      have h0 := h 0 (by omega)
      simp only [Nat.add_zero, List.getElem?_cons_zero] at h0
      simp only [loadCellsFrom, Sem.run_bind, add_addr, run_load, h0, Result.andThen_ok]
      rw [run_loadCellsFrom b o n (i + 1) (acc.push u) us (by simpa using hl) (fun j hj => ?_)]
      · simp
      · have := h (j + 1) (by omega)
        rw [List.getElem?_cons_succ] at this
        rw [← this]; congr 2; omega
theorem run_loadCells {b o n : Nat} {us : List Value} (hl : us.length = n) (h : ∀ j, j < n → w.cell? ⟨b, o + j, none⟩ = us[j]?) : (loadCells ⟨b, o, none⟩ n).run P w = .ok us.toArray w := by
  unfold loadCells
  rw [run_loadCellsFrom b o n 0 #[] us hl (fun j hj => by simpa using h j hj)]
  simp

theorem sub_some {cs l : List V} {o n : Nat} (h : sub cs o n = some l) : l = (cs.drop o).take n ∧ l.length = n ∧ o + n ≤ cs.length ∨ n = 0 ∧ l = [] := by
  unfold sub at h
  simp only [drR_eq, tkR_eq, lnR_eq] at h
  obtain ⟨h1, h2⟩ := cond_some h
  cases h2
  have := Nat.eq_of_beq_eq_true h1
  rw [List.length_take, List.length_drop] at this
  rcases Nat.eq_zero_or_pos n with e | e
  · exact .inr ⟨e, by subst e; simp⟩
  · refine .inl ⟨rfl, by rw [List.length_take, List.length_drop]; exact this, by omega⟩

theorem rd_ok (h : Rel E m w) {b o n : Nat} {l : List V} {x : EB} (hr : rd m b o n = some l) (hb : E b = some x) :
    ∃ us, reps E l = some us ∧ us.length = n ∧ ∀ j, j < n → w.cell? ⟨x.r, x.s + o + j, none⟩ = us[j]? := by
  unfold rd at hr
  split at hr
  · rename_i cs root al hl
    rcases sub_some hr with ⟨rfl, hlen, hle⟩ | ⟨rfl, rfl⟩
    · obtain ⟨ob, ho, hor⟩ := obj_eq h hl hb
      obtain ⟨c, t, fz, us, rfl, hsz, hl2, hrs, hcells, hfz⟩ := hor
      have hul : us.length = cs.length := reps_length hrs
      refine ⟨(us.drop o).take n, reps_take n (reps_drop o hrs), by rw [List.length_take, List.length_drop]; omega, fun j hj => ?_⟩
      simp only [World.cell?, ho]
      rw [List.getElem?_take, if_pos hj, List.getElem?_drop]
      have := hcells (o + j) (by omega)
      rw [← this]; simp; congr 1; omega
    · exact ⟨[], rfl, rfl, fun j hj => by omega⟩
  · cases hr

theorem rep_ptr {b o : Nat} {u : Value} (h : rep E (.ptr b o) = some u) : ∃ x, E b = some x ∧ u = .pointer (some ⟨x.r, x.s + o, none⟩) := by
  simp only [rep, Option.map_eq_some_iff] at h
  obtain ⟨x, hx, rfl⟩ := h
  exact ⟨x, hx, rfl⟩
theorem rep_ptr_mk {b o : Nat} {x : EB} (h : E b = some x) : rep E (.ptr b o) = some (.pointer (some ⟨x.r, x.s + o, none⟩)) := by
  simp only [rep, h, Option.map_some]

theorem run_loadVar (h : Rel E m w) {t : TypeId} {y : Ty} (hy : TyOk P t y) {b o : Nat} {x : EB} (hb : E b = some x) :
    (∀ l, aggD y.u = true → rd m b o y.size = some l → ∃ us, reps E l = some us ∧ (loadVar t ⟨x.r, x.s + o, none⟩).run P w = .ok (.agg us.toArray) w) ∧
    (∀ v, aggD y.u = false → rd m b o 1 = some [v] → ∃ u, rep E v = some u ∧ (loadVar t ⟨x.r, x.s + o, none⟩).run P w = .ok u w) := by
  constructor
  · intro l ha hr
    obtain ⟨us, h1, h2, h3⟩ := rd_ok h hr hb
    refine ⟨us, h1, ?_⟩
    simp only [loadVar, Sem.run_bind, run_isAgg hy, Result.andThen_ok, ha, if_true, run_sizeOf hy, run_loadCells h2 h3, Sem.run_pure]
  · intro v ha hr
    obtain ⟨us, h1, h2, h3⟩ := rd_ok h hr hb
    simp only [reps, Option.bind_eq_some_iff, Option.map_eq_some_iff] at h1
    obtain ⟨u, hu, r, hr', rfl⟩ := h1
    have h4 := h3 0 (by omega)
    simp only [Nat.add_zero, List.getElem?_cons_zero] at h4
    refine ⟨u, hu, ?_⟩
    simp only [loadVar, Sem.run_bind, run_isAgg hy, Result.andThen_ok, ha, Bool.false_eq_true, if_false, run_load, h4]

theorem fLoad_ok (h : Rel E m w) {t : TypeId} {x : V} {ux : Value} {out : FO} (hx : rep E x = some ux) (hf : fLoad P t m x = some out) :
    ∃ v u, out = .v v ∧ (Instr.loadAt t ux).run P w = .ok u w ∧ rep E v = some u := by
  cases x <;> simp only [fLoad] at hf <;> try cases hf
  rename_i b o
  obtain ⟨xb, hb, rfl⟩ := rep_ptr hx
  cases hy0 : mkTy P t with
  | none => rw [hy0] at hf; cases hf
  | some y =>
    rw [hy0] at hf
    dsimp only at hf
    have hy := tyOk hy0
    cases ha : aggD y.u with
    | true =>
      rw [ha, cond_true] at hf
      cases hr : rd m b o y.size with
      | none => rw [hr] at hf; cases hf
      | some l =>
        rw [hr] at hf; cases hf
        obtain ⟨us, h1, h2⟩ := (run_loadVar h hy hb).1 l ha hr
        exact ⟨_, .agg us.toArray, rfl, by simp [Instr.loadAt, Instr.sureAddr, h2], by simp only [rep, h1, Option.map_some]⟩
    | false =>
      rw [ha, cond_false] at hf
      split at hf
      · rename_i v hr
        cases hf
        obtain ⟨u, h1, h2⟩ := (run_loadVar h hy hb).2 v ha hr
        exact ⟨_, _, rfl, by simp [Instr.loadAt, Instr.sureAddr, h2], h1⟩
      · cases hf

theorem fNil_ok {x : V} {ux : Value} {out : FO} (hx : rep E x = some ux) (hf : fNil x = some out) :
    ∃ v, out = .v v ∧ rep E v = some ux ∧ ((∃ a, ux = .pointer (some a)) ∨ (∃ t u, ux = .iface t u) ∨ (∃ f xs ys, ux = .func (.func f) xs ys) ∨ (∃ f xs ys, ux = .func (.yield f) xs ys) ∨ (∃ r, ux = .map r) ∨ ∃ a n c, ux = .slice a n c) := by
  cases x <;> simp only [fNil] at hf <;> try cases hf
  case ptr b o => obtain ⟨x, _, rfl⟩ := rep_ptr hx; exact ⟨_, rfl, hx, .inl ⟨_, rfl⟩⟩
  case nils => exact ⟨_, rfl, hx, by simp only [rep, Option.some.injEq] at hx; subst hx; exact .inr (.inr (.inr (.inr (.inr ⟨_, _, _, rfl⟩))))⟩
  case sl b o n c z =>
    refine ⟨_, rfl, hx, .inr (.inr (.inr (.inr (.inr ?_))))⟩
    simp only [rep, Option.bind_eq_some_iff] at hx
    obtain ⟨_, _, hx⟩ := hx
    cases c with
    | some c => cases hx; exact ⟨_, _, _, rfl⟩
    | none =>
      dsimp only at hx
      split at hx
      · cases hx; exact ⟨_, _, _, rfl⟩
      · cases hx
  case sle b o n z =>
    refine ⟨_, rfl, hx, .inr (.inr (.inr (.inr (.inr ?_))))⟩
    simp only [rep, Option.bind_eq_some_iff] at hx
    obtain ⟨_, _, hx⟩ := hx
    split at hx
    · cases hx; split <;> exact ⟨_, _, _, rfl⟩
    · cases hx
  case nilm => exact ⟨_, rfl, hx, by simp only [rep, Option.some.injEq] at hx; subst hx; exact .inr (.inr (.inr (.inr (.inl ⟨_, rfl⟩))))⟩
  case map b =>
    refine ⟨_, rfl, hx, .inr (.inr (.inr (.inr (.inl ?_))))⟩
    simp only [rep, Option.map_eq_some_iff] at hx
    obtain ⟨_, _, rfl⟩ := hx
    exact ⟨_, rfl⟩
  case fn f xs ys =>
    simp only [rep, Option.bind_eq_some_iff, Option.map_eq_some_iff] at hx
    obtain ⟨a, ha, c, hc, rfl⟩ := hx
    cases f <;> cases hf
    exact ⟨_, rfl, by simp only [rep, ha, hc, Option.bind_some, Option.map_some], .inr (.inr (.inl ⟨_, _, _, rfl⟩))⟩
  case yld l =>
    refine ⟨_, rfl, hx, .inr (.inr (.inr (.inl ?_)))⟩
    simp only [rep, Option.map_eq_some_iff] at hx
    obtain ⟨_, _, rfl⟩ := hx
    exact ⟨_, _, _, rfl⟩
  case iface t v =>
    simp only [rep, Option.map_eq_some_iff] at hx
    obtain ⟨u, hu, rfl⟩ := hx
    exact ⟨_, rfl, by simp only [rep, hu, Option.map_some], .inr (.inl ⟨_, _, rfl⟩)⟩

theorem fieldOf_ok {s : TypeId} {f off : Nat} {y : Ty} (h : fieldOf P s f = some (off, y)) : ∃ fs fd, P.underlying s = some (.struct fs) ∧ fs[f]? = some fd ∧ fd.offset = off ∧ TyOk P fd.type y := by
  unfold fieldOf at h
  split at h
  · rename_i fs _ _ _ hs
    split at h
    · rename_i fd hfd
      split at h
      · rename_i y' hy
        cases h
        rw [nth_eq] at hfd
        exact ⟨fs, fd, (tyOk hs).u, by simpa using hfd, rfl, tyOk hy⟩
      · cases h
    · cases h
  · cases h

theorem fFieldAddr_ok {s : TypeId} {f : Nat} {x : V} {ux : Value} {out : FO} (hx : rep E x = some ux) (hf : fFieldAddr P s f x = some out) (w : World) :
    ∃ v u, out = .v v ∧ (Instr.fieldAt s ux f).run P w = .ok u w ∧ rep E v = some u := by
  cases x <;> simp only [fFieldAddr] at hf <;> try cases hf
  rename_i b o
  obtain ⟨xb, hb, rfl⟩ := rep_ptr hx
  split at hf
  · rename_i off y hfo
    obtain ⟨h1, h2⟩ := cond_some' hf
    cases h2
    obtain ⟨fs, fd, hs, hfd, ho, hy⟩ := fieldOf_ok hfo
    have hne : ¬ y.size = 0 := fun e => by rw [e] at h1; cases h1
    refine ⟨_, .pointer (some ⟨xb.r, xb.s + (o + off), none⟩), rfl, ?_, rep_ptr_mk hb⟩
    simp [Instr.fieldAt, run_underlying hs, hfd, Instr.sureAddr, fieldPlace, run_sizeOf hy, hne, add_addr, ho, Nat.add_assoc]
  · cases hf

theorem partV_ok {t : TypeId} {y : Ty} {cs : List V} {us : List Value} {off : Nat} {v : V} (hy : TyOk P t y) (hr : reps E cs = some us) (h : partV y cs off = some v) (w : World) : ∃ u, (part t us.toArray off).run P w = .ok u w ∧ rep E v = some u := by
  unfold partV at h
  rw [drR_eq, tkR_eq] at h
  cases ha : aggD y.u with
  | true =>
    rw [ha, cond_true] at h; cases h
    refine ⟨.agg ((us.toArray).extract off (off + y.size)), by simp [part, run_isAgg hy, ha, run_sizeOf hy], ?_⟩
    simp only [rep, reps_take _ (reps_drop _ hr), Option.map_some]
    congr 2
    simp [List.extract_eq_take_drop]
  | false =>
    rw [ha, cond_false, nth_eq] at h
    obtain ⟨u, hu, hru⟩ := reps_get hr h
    exact ⟨u, by simp [part, run_isAgg hy, ha, hu], hru⟩

theorem fField_ok {s : TypeId} {f : Nat} {x : V} {ux : Value} {out : FO} (hx : rep E x = some ux) (hf : fField P s f x = some out) (w : World) :
    ∃ v u, out = .v v ∧ (Instr.field s ux f).run P w = .ok u w ∧ rep E v = some u := by
  cases x <;> simp only [fField] at hf <;> try cases hf
  rename_i cs
  simp only [rep, Option.map_eq_some_iff] at hx
  obtain ⟨us, hus, rfl⟩ := hx
  split at hf
  · rename_i off y hfo
    obtain ⟨fs, fd, hs, hfd, ho, hy⟩ := fieldOf_ok hfo
    simp only [Option.map_eq_some_iff] at hf
    obtain ⟨v, hv, rfl⟩ := hf
    obtain ⟨u, hu, hru⟩ := partV_ok hy hus hv w
    refine ⟨v, u, rfl, ?_, hru⟩
    simp [Instr.field, run_underlying hs, hfd, asAgg, ho, hu]
  · cases hf

theorem fIndexAddr_ok {t : TypeId} {x i : V} {ux ui : Value} {out : FO} (hx : rep E x = some ux) (hi : rep E i = some ui) (hf : fIndexAddr P t x i = some out) (w : World) :
    ∃ v u, out = .v v ∧ (Instr.indexAt t ux ui).run P w = .ok u w ∧ rep E v = some u := by
  unfold fIndexAddr at hf
  split at hf
  · rename_i b o k n
    cases hi
    obtain ⟨xb, hb, rfl⟩ := rep_ptr hx
    split at hf
    · rename_i len e _ _ _ ht
      split at hf
      · rename_i y hy
        obtain ⟨h1, h2⟩ := cond_some hf
        cases h2
        have hlt : n < len := by simpa using h1
        refine ⟨_, .pointer (some ⟨xb.r, xb.s + (o + n * y.size), none⟩), rfl, ?_, rep_ptr_mk hb⟩
        have h3 : (0 : Int) ≤ (n : Int) ∧ (n : Int) < (len : Int) := ⟨by omega, by omega⟩
        simp [Instr.indexAt, asIntOf, run_underlying (tyOk ht).u, Instr.sureAddr, run_sizeOf (tyOk hy), add_addr, Nat.add_assoc, h3, hlt]
      · cases hf
    · cases hf
  · rename_i b o len cap sz k n
    cases hi
    split at hf
    · rename_i e _ _ _ ht
      split at hf
      · rename_i y hy
        obtain ⟨h1, h2⟩ := cond_some hf
        cases h2
        have hlt : n < len := by simpa using h1
        have hx' : ∃ xb c, E b = some xb ∧ ux = .slice (some ⟨xb.r, xb.s + o, none⟩) len c := by
          simp only [rep, Option.bind_eq_some_iff] at hx
          obtain ⟨xb, hb, hx⟩ := hx
          cases cap with
          | some c => cases hx; exact ⟨xb, _, hb, rfl⟩
          | none =>
            dsimp only at hx
            split at hx
            · cases hx; exact ⟨xb, _, hb, rfl⟩
            · cases hx
        obtain ⟨xb, c, hb, rfl⟩ := hx'
        refine ⟨_, .pointer (some ⟨xb.r, xb.s + (o + n * y.size), none⟩), rfl, ?_, rep_ptr_mk hb⟩
        simp [Instr.indexAt, asIntOf, run_underlying (tyOk ht).u, run_sizeOf (tyOk hy), add_addr, Nat.add_assoc, hlt]
      · cases hf
    · cases hf
  · cases hf

theorem fIndex_ok {t : TypeId} {x i : V} {ux ui : Value} {out : FO} (hx : rep E x = some ux) (hi : rep E i = some ui) (hf : fIndex P t x i = some out) (w : World) :
    ∃ v u, out = .v v ∧ (Instr.index t ux ui).run P w = .ok u w ∧ rep E v = some u := by
  unfold fIndex at hf
  split at hf
  · rename_i s k n
    cases hi; cases hx
    split at hf
    · rename_i _ _ _ ht
      split at hf
      · rename_i c hc
        cases hf
        rw [nth_eq] at hc
        have h2 : (ByteArray.mk s.toArray)[n]? = some c := by
          obtain ⟨hlt, he⟩ := List.getElem?_eq_some_iff.1 hc
          have : n < (ByteArray.mk s.toArray).size := by show n < s.toArray.size; simpa using hlt
          rw [getElem?_pos _ n this]
          congr 1
        refine ⟨_, .int .u8 c.toNat, rfl, ?_, rfl⟩
        simp [Instr.index, asIntOf, run_underlying (tyOk ht).u, h2]
      · cases hf
    · cases hf
  · rename_i cs k n
    cases hi
    simp only [rep, Option.map_eq_some_iff] at hx
    obtain ⟨us, hus, rfl⟩ := hx
    split at hf
    · rename_i len e _ _ _ ht
      split at hf
      · rename_i y hy
        obtain ⟨h1, h2⟩ := cond_some hf
        have hlt : n < len := by simpa using h1
        simp only [Option.map_eq_some_iff] at h2
        obtain ⟨v, hv, rfl⟩ := h2
        obtain ⟨u, hu, hru⟩ := partV_ok (tyOk hy) hus hv w
        refine ⟨v, u, rfl, ?_, hru⟩
        simp [Instr.index, asIntOf, run_underlying (tyOk ht).u, run_sizeOf (tyOk hy), hlt, hu]
      · cases hf
    · cases hf
  · cases hf

end
end Go.Proofs.YtdjpjmojmppjkaaGreat.Eng

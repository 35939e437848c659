/- Appending, copying, stepping through a map. -/
import Derived.Test.YtdjpjmojmppjkaaGreatEffOk
namespace Go.Proofs.YtdjpjmojmppjkaaGreat.Eng
open Go

section
variable {P : Program} {E : Env} {m m' : M} {w : World}

theorem lenV_ok {x : V} {ux : Value} {n : Nat} (hx : rep E x = some ux) (h : lenV x = some n) (w : World) : (Builtin.lenOf ux).run P w = .ok n w := by
  cases x <;> simp only [lenV] at h <;> try cases h
  case str s =>
    cases hx
    have hsz : (ByteArray.mk s.toArray).size = s.length := by show s.toArray.size = _; simp
    simp [Builtin.lenOf, hsz]
  case nils => cases hx; rfl
  case sl => obtain ⟨_, _, rfl⟩ := rep_sl_shape hx; rfl
  case sle => obtain ⟨_, _, rfl⟩ := rep_sle_shape hx; rfl

theorem firstV_ok (h : Rel E m w) {x : V} {ux : Value} {sz n : Nat} {l : List V} (hx : rep E x = some ux) (hf : firstV m sz n x = some l) (hn : ∀ k, lenV x = some k → n ≤ k) :
    ∃ us, reps E l = some us ∧ (Builtin.firstCells sz n ux).run P w = .ok us.toArray w ∧ us.length = l.length := by
  cases x <;> simp only [firstV] at hf <;> try cases hf
  case str s =>
    cases hx
    obtain ⟨_, hf⟩ := cond_some hf
    cases hf
    refine ⟨_, u8s_ok _, ?_, by rw [reps_length (u8s_ok (E := E) _)]⟩
    simp only [Builtin.firstCells, Sem.run_pure]
    congr 1
    apply Array.ext'
    rw [ByteArray.data_extract]
    simp [List.extract_eq_take_drop, List.map_take]
  case nils => cases hx; exact ⟨[], rfl, rfl, rfl⟩
  case sl b o len cap sz' =>
    obtain ⟨xb, c, hb, rfl, _⟩ := rep_sl hx
    obtain ⟨us, h1, h2, h3⟩ := rd_ok h hf hb
    exact ⟨us, h1, by simp only [Builtin.firstCells]; exact run_loadCells h2 h3, reps_length h1⟩
  case sle b o l' sz' =>
    obtain ⟨h1, h2⟩ := cond_some hf
    have : n = 0 := Nat.eq_of_beq_eq_true h1
    subst this
    cases h2
    obtain ⟨a, c, rfl⟩ := rep_sle_shape hx
    exact ⟨[], rfl, by simp [Builtin.firstCells, loadCells, loadCellsFrom], rfl⟩

theorem growBy_le (n : Nat) : ∀ (r c : Nat), c < n → Builtin.growBy n r c ≤ n + (n + 768) / 4
  | 0, c, h => by simp only [Builtin.growBy]; omega
  | r + 1, c, h => by
    simp only [Builtin.growBy]
    rw [if_neg (by omega)]
    rcases Nat.lt_or_ge (c + (c + 768) / 4) n with h1 | h1
    · exact growBy_le n r _ h1
    · cases r with
      | zero => simp only [Builtin.growBy]; omega
      | succ r => simp only [Builtin.growBy]; rw [if_pos h1]; omega
theorem nextcap_le {n c : Nat} (h : c < n) : Builtin.nextslicecap n c ≤ 2 * n + 1000 := by
  unfold Builtin.nextslicecap
  split
  · omega
  · split
    · omega
    · have := growBy_le n 4 c h; omega

/-- The part of the model's append behind what decides that there is no room. -/
theorem run_append_grow {t t' e : TypeId} {y' : Ty} {sz by_ : Nat} {zd : TypeDesc} {z : V} {ats : Array TypeId} {ty : TypeId} {base : Option Addr} {sLen sCap n : Nat} {ux : Value} {old new : List Value}
    (ha0 : ats[0]? = some t) (ha1 : ats[1]? = some t') (ht : P.underlying t = some (.slice e)) (hy' : TyOk P t' y') (hni : ∀ k, y'.u ≠ .int k) (hye : TyOk P e ⟨zd, sz, by_, some z⟩) (hzl : (cellsV z).length = sz)
    (hby : by_ < 10000) (hn : (Builtin.lenOf ux).run P w = .ok n w) (hcap : sCap < sLen + n) (hsm : sLen + n < 1000000)
    (hold : ∀ w' : World, w'.heap = w.heap → (Builtin.firstCells sz sLen (.slice base sLen sCap)).run P w' = .ok old.toArray w')
    (hnew : ∀ w' : World, w'.heap = w.heap → (Builtin.firstCells sz n ux).run P w' = .ok new.toArray w')
    (hol : old.length = sLen * sz) (hnl : new.length = n * sz) :
    ∃ (w1 : World) (cap : Nat) (rest : List Value), (Builtin.append_ ats ty #[.slice base sLen sCap, ux]).run P w = .ok (.slice (some ⟨w.heap.size, 0, none⟩) (sLen + n) cap) w1 ∧
      sLen + n ≤ cap ∧ New w w1 (.cells (old ++ new ++ rest).toArray e) ∧ (old ++ new ++ rest).length = cap * sz := by
  obtain ⟨i, hi, his, hib, _⟩ := hye.info
  dsimp only at his hib
  obtain ⟨Z, hZ, hzr⟩ := zero_cells hye rfl w.drew
  have hZl : Z.cells.size = sz := by rw [← Array.length_toList, reps_length (hzr (fun _ => none))]; exact hzl
  have hne : (y'.u matches .int _) = false := by
    cases hh : y'.u <;> first | rfl | exact absurd hh (hni _)
  have hlim : ¬ Builtin.nextslicecap (sLen + n) sCap * i.bytes > 2 ^ 48 := by
    have h1 := nextcap_le hcap
    have h2 : Builtin.nextslicecap (sLen + n) sCap * i.bytes ≤ 2001000 * 10000 := Nat.mul_le_mul (by omega) (by omega)
    omega
  generalize hc : (sLen + n) + w.tape w.drawn (.appendCap (sLen + n) sCap e) % (2 ^ 63 - (sLen + n)) = cap
  have hq : (Question.appendCap (sLen + n) sCap e).forced = false := rfl
  have hmax : ¬ ((((sLen + n : Nat) : Int) > IntKind.i64.max) ∧ (False ∨ i.bytes = 0)) := by
    intro hh
    have := hh.1
    simp [IntKind.max, IntKind.signed, IntKind.bits] at this; omega
  have hsize := run_sizeOf (P := P) hye
  dsimp only at hsize
  refine ⟨(w.drew).alloc (.cells (old ++ new ++ (Builtin.zeroCells Z.cells (cap - (sLen + n))).toList).toArray e), cap, (Builtin.zeroCells Z.cells (cap - (sLen + n))).toList, ?_, by omega, ?_, ?_⟩
  · unfold Builtin.append_
    simp only [ha0, ha1, List.getElem?_toArray, List.getElem?_cons_zero, List.getElem?_cons_succ, Sem.run_bind, run_underlying ht, Result.andThen_ok, hsize, run_underlying hy'.u, Sem.run_pure, Bool.false_eq_true, if_false, hn]
    rw [if_neg (by omega)]
    simp only [Sem.run_bind, run_typeInfo hi, Result.andThen_ok]
    rw [if_neg hmax]
    simp only [Sem.run_bind, run_typeInfo hi, Result.andThen_ok]
    rw [if_neg hlim]
    have hZ' : ∀ w' : World, (zeroValue e).run P w' = .ok Z w' := fun w' => by
      obtain ⟨Z', h1, h2⟩ := run_zeroValue hye rfl w'
      obtain ⟨Z'', h3, h4⟩ := run_zeroValue (P := P) hye rfl w.drew
      rw [hZ] at h3; cases h3
      have := h2 (fun _ => none)
      rw [h4] at this; cases this
      exact h1
    simp only [Sem.run_bind, run_choose, hq, Bool.false_eq_true, if_false, Result.andThen_ok, Question.cut, hc, run_typeInfo hi, run_askRoom, Bool.not_false, if_true, hold { w with drawn := w.drawn + 1 } rfl, hnew { w with drawn := w.drawn + 1 } rfl, hZ', newRow, run_newObj, Sem.run_pure]
    congr 1
    simp only [World.alloc, World.drew]
    congr 3
    apply Array.ext'; simp
  · refine ⟨fun r hr => ?_, ?_, ?_, rfl, rfl, rfl⟩
    · show (w.heap.push _)[r]? = _
      rw [Array.getElem?_push, if_neg (by omega)]
    · show (w.heap.push _)[w.heap.size]? = _
      rw [Array.getElem?_push, if_pos rfl]
    · show (w.heap.push _).size = _
      rw [Array.size_push]
  · rw [List.length_append, List.length_append, hol, hnl]
    simp only [Builtin.zeroCells, Array.length_toList, Array.size_map, Array.size_range, hZl]
    rw [← Nat.add_mul, ← Nat.add_mul]
    congr 1; omega

end
end Go.Proofs.YtdjpjmojmppjkaaGreat.Eng

/- What is built is what the model builds. -/
import Derived.Test.YtdjpjmojmppjkaaGreatFltOk
namespace Go.Proofs.YtdjpjmojmppjkaaGreat.Eng
open Go

section
variable {P : Program} {E : Env} {m : M} {w : World}

/-- The parts of a literal. -/
noncomputable def evPartsC (ts : T V) (p : Nat × Operand) (_ : List (Nat × Operand)) (ih : Option (List (Nat × V))) : Option (List (Nat × V)) :=
  match ev ts p.2 with
    | some v => (match ih with
      | some r => some ((p.1, v) :: r)
      | none => none)
    | none => none
noncomputable def evParts (ts : T V) (l : List (Nat × Operand)) : Option (List (Nat × V)) := List.rec (motive := fun _ => Option (List (Nat × V))) (some []) (evPartsC ts) l
theorem evParts_nil (ts : T V) : evParts ts [] = some [] := rfl
theorem evParts_cons (ts : T V) (i : Nat) (x : Operand) (l : List (Nat × Operand)) : evParts ts ((i, x) :: l) = match ev ts x with
    | some v => (match evParts ts l with
      | some r => some ((i, v) :: r)
      | none => none)
    | none => none := rfl
def preps (E : Env) : List (Nat × V) → Option (List (Nat × Value))
  | [] => some []
  | (i, v) :: l => (rep E v).bind fun u => (preps E l).map fun r => (i, u) :: r

theorem fold_splice (cs : List Value) : ∀ (us : List Value) (k off : Nat), off + k + us.length ≤ cs.length →
    (us.toArray.zipIdx k).foldl (fun cs (c, j) => cs.setIfInBounds (off + j) c) cs.toArray = (cs.take (off + k) ++ us ++ cs.drop (off + k + us.length)).toArray := by
  intro us
  induction us generalizing cs with
  | nil => intro k off h; simp [Array.zipIdx]
  | cons u us ih =>
    intro k off h
    simp only [List.length_cons] at h
    have hz : (u :: us).toArray.zipIdx k = #[(u, k)] ++ us.toArray.zipIdx (k + 1) := by
      apply Array.ext'
      simp [List.zipIdx_cons]
    rw [hz, Array.foldl_append]
    simp only [List.foldl_toArray', List.foldl_cons, List.foldl_nil, List.size_toArray, List.length_cons, List.length_nil, List.setIfInBounds_toArray]
    have := ih (cs.set (off + k) u) (k + 1) off (by rw [List.length_set]; omega)
    rw [this]
    congr 1
    have e1 : off + (k + 1) = off + k + 1 := by omega
    rw [e1, List.drop_set_of_lt (by omega)]
    have e2 : (cs.set (off + k) u).take (off + k + 1) = cs.take (off + k) ++ [u] := by
      rw [List.take_set, List.take_succ_eq_append_getElem (by omega), List.set_append_right _ _ (by simp; omega)]
      have e4 : off + k - (cs.take (off + k)).length = 0 := by rw [List.length_take]; omega
      rw [e4]; rfl
    have e3 : off + k + 1 + us.length = off + k + (us.length + 1) := by omega
    rw [e2, e3]
    simp

theorem fillV_ok {place : Nat → Option (Nat × Nat)} : ∀ (parts : List (Nat × V)) (up : List (Nat × Value)) (cells out : List V) (uc : List Value), preps E parts = some up → reps E cells = some uc → fillV place parts cells = some out →
    ∃ uo, Instr.fill place uc.toArray up = some uo.toArray ∧ reps E out = some uo
  | [], up, cells, out, uc, hp, hc, h => by
    simp only [preps, Option.some.injEq] at hp; subst hp
    simp only [fillV, Option.some.injEq] at h; subst h
    exact ⟨uc, rfl, hc⟩
  | (i, v) :: rest, up, cells, out, uc, hp, hc, h => by
    simp only [preps, Option.bind_eq_some_iff, Option.map_eq_some_iff] at hp
    obtain ⟨u, hu, ur, hur, rfl⟩ := hp
    simp only [fillV, drR_eq, tkR_eq, apR_eq, lnR_eq, ← List.append_assoc] at h
    cases hpl : place i with
    | none => rw [hpl] at h; cases h
    | some p =>
      obtain ⟨off, size⟩ := p
      rw [hpl] at h
      dsimp only at h
      obtain ⟨h1, h2⟩ := cond_some h
      rw [Bool.and_eq_true] at h1
      have hs : (cellsV v).length = size := Nat.eq_of_beq_eq_true h1.1
      have hle : off + size ≤ cells.length := Nat.le_of_ble_eq_true h1.2
      have hcv := cellsV_rep hu
      have hl1 : u.cells.toList.length = size := by rw [reps_length hcv]; exact hs
      have hl2 : uc.length = cells.length := reps_length hc
      have hnew : reps E (cells.take off ++ cellsV v ++ cells.drop (off + size)) = some (uc.take off ++ u.cells.toList ++ uc.drop (off + size)) :=
        reps_append (reps_append (reps_take off hc) hcv) (reps_drop _ hc)
      obtain ⟨uo, h3, h4⟩ := fillV_ok rest ur _ out _ hur hnew h2
      refine ⟨uo, ?_, h4⟩
      have hz : u.cells.size = size := by rw [← Array.length_toList]; exact hl1
      have hcond : (decide (u.cells.size ≠ size) || decide (off + u.cells.size > uc.toArray.size)) = false := by
        rw [hz, List.size_toArray, hl2]; simp; omega
      simp only [Instr.fill, hpl]
      rw [if_neg (by rw [hcond]; simp)]
      have := fold_splice uc u.cells.toList 0 off (by rw [hl1, hl2]; omega)
      rw [Array.toArray_toList] at this
      rw [this, hl1]
      simpa using h3

theorem preps_of {ts : T V} {ρ : Operand → Value} (hev : ∀ x v, ev ts x = some v → rep E v = some (ρ x)) : ∀ (l : List (Nat × Operand)) (r : List (Nat × V)), evParts ts l = some r → preps E r = some (l.map fun (i, x) => (i, ρ x))
  | [], r, h => by simp only [evParts_nil, Option.some.injEq] at h; subst h; rfl
  | (i, x) :: l, r, h => by
    simp only [evParts_cons] at h
    split at h
    · rename_i v hv
      split at h
      · rename_i r' hr'
        cases h
        simp only [preps, hev _ _ hv, Option.bind_some, preps_of hev l r' hr', Option.map_some, List.map_cons]
      · cases h
    · cases h

theorem places_ok : ∀ (fs : List Field) (ps : List (Nat × Nat)), places P fs = some ps → (fs.mapM fun f => (do pure (f.offset, ← sizeOf f.type) : Sem (Nat × Nat))).run P w = .ok ps w
  | [], ps, h => by simp only [places, Option.some.injEq] at h; subst h; rfl
  | f :: fs, ps, h => by
    simp only [places] at h
    split at h
    · rename_i y hy
      split at h
      · rename_i r hr
        cases h
        rw [List.mapM_cons]
        simp only [Sem.run_bind, run_sizeOf (tyOk hy), Result.andThen_ok, Sem.run_pure, places_ok fs r hr]
      · cases h
    · cases h

theorem zero_cells {y : Ty} {t : TypeId} {z : V} (hy : TyOk P t y) (hz : y.zero = some z) (w : World) : ∃ Z, (zeroValue t).run P w = .ok Z w ∧ ∀ E, reps E (cellsV z) = some Z.cells.toList := by
  obtain ⟨Z, h1, h2⟩ := run_zeroValue hy hz w
  exact ⟨Z, h1, fun E => cellsV_rep (h2 E)⟩

theorem fBuild_ok {t : TypeId} {parts : List (Nat × V)} {up : List (Nat × Value)} {out : FO} (hp : preps E parts = some up) (hf : fBuild P t parts = some out) (w : World) :
    ∃ v u, out = .v v ∧ (Instr.build t up.toArray).run P w = .ok u w ∧ rep E v = some u := by
  unfold fBuild at hf
  split at hf
  · rename_i fs _ _ z ht
    obtain ⟨Z, hZ, hzr⟩ := zero_cells (tyOk ht) rfl w
    split at hf
    · rename_i ps hps
      split at hf
      · rename_i cs hcs
        cases hf
        obtain ⟨uo, h1, h2⟩ := fillV_ok parts up _ cs _ hp (hzr E) hcs
        refine ⟨_, .agg uo.toArray, rfl, ?_, by simp only [rep, h2, Option.map_some]⟩
        have hpl : (fs.mapM fun f => (do pure (f.offset, ← sizeOf f.type) : Sem (Nat × Nat))).run P w = .ok ps.toArray w := by
          rw [← Array.toArray_toList (xs := fs)]
          have := places_ok (P := P) (w := w) fs.toList ps hps
          rw [List.mapM_toArray, Sem.run_map, this]
          rfl
        have hnth : (fun i => nth ps i) = fun i => ps.toArray[i]? := by funext i; rw [nth_eq]; simp
        rw [Array.toArray_toList] at h1
        have h1' : Instr.fill (fun x => ps.toArray[x]?) Z.cells up = some uo.toArray := by rw [← hnth]; exact h1
        simp only [Instr.build, Sem.run_bind, hZ, Result.andThen_ok, run_underlying (tyOk ht).u, hpl]
        rw [h1']
        rfl
      · cases hf
    · cases hf
  · rename_i n e _ _ z ht
    obtain ⟨Z, hZ, hzr⟩ := zero_cells (tyOk ht) rfl w
    split at hf
    · rename_i ye hye
      split at hf
      · rename_i cs hcs
        cases hf
        obtain ⟨uo, h1, h2⟩ := fillV_ok parts up _ cs _ hp (hzr E) hcs
        refine ⟨_, .agg uo.toArray, rfl, ?_, by simp only [rep, h2, Option.map_some]⟩
        rw [Array.toArray_toList] at h1
        simp only [Instr.build, Sem.run_bind, hZ, Result.andThen_ok, run_underlying (tyOk ht).u, run_sizeOf (tyOk hye)]
        rw [h1]
        rfl
      · cases hf
    · cases hf
  · cases hf

/-- The world with a block more. -/
structure Push (w w1 : World) (o : Obj) : Prop where
  heap : w1.heap = w.heap.push o
  os : w1.os = w.os
  tape : w1.tape = w.tape
  output : w1.output = w.output
theorem Push.alloc (w : World) (o : Obj) : Push w (w.alloc o) o := ⟨rfl, rfl, rfl, rfl⟩

theorem repl_ok {z : List V} {Z : List Value} (h : reps E z = some Z) : ∀ n, reps E (repl z n) = some ((List.replicate n Z).flatten)
  | 0 => rfl
  | n + 1 => by
    show reps E (apR z (repl z n)) = _
    rw [apR_eq]
    rw [List.replicate_succ, List.flatten_cons]
    exact reps_append h (repl_ok h n)
theorem repl_len (z : List V) : ∀ n, (repl z n).length = n * z.length
  | 0 => by show ([] : List V).length = _; simp
  | n + 1 => by
    show (apR z (repl z n)).length = _
    rw [apR_eq]
    rw [List.length_append, repl_len z n, Nat.succ_mul]; omega
theorem rep_flatten (Z : Array Value) : ∀ n, (Array.range (n * Z.size)).map (fun i => Z[i % Z.size]!) = ((List.replicate n Z.toList).flatten).toArray := by
  intro n
  apply Array.ext'
  rw [Array.toList_map, Array.toList_range]
  induction n with
  | zero => simp
  | succ n ih =>
    rw [Nat.succ_mul, List.range_add, List.map_append, ih]
    have : List.replicate (n + 1) Z.toList = List.replicate n Z.toList ++ [Z.toList] := by rw [List.replicate_succ']
    rw [this, List.flatten_append]
    simp only [List.flatten_cons, List.flatten_nil, List.append_nil, List.map_map]
    congr 1
    apply List.ext_getElem
    · simp
    · intro i h1 h2
      simp at h1
      simp [Nat.add_mod, Nat.mod_eq_of_lt h1, h1]

theorem orep_new {cs : List V} {us : List Value} (h : reps E cs = some us) (r : Nat) (t : TypeId) : orep E ⟨r, us.length, 0, .nilIface⟩ (.cells cs) (.cells us.toArray t) := by
  have hl := reps_length h
  refine ⟨us.toArray, t, (0, 0), us, rfl, by simp, by simp; omega, h, fun i hi => by simp, fun i _ hh => by dsimp only at hh; omega⟩

theorem fBuildSlice_ok {t : TypeId} {len : Nat} {parts : List (Nat × V)} {up : List (Nat × Value)} {out : FO} (hp : preps E parts = some up) (hf : fBuildSlice P t len parts = some out) (w : World) :
    ∃ a k o u x, out = .a a k ∧ (Instr.buildSlice t len up.toArray).run P w = .ok u (w.alloc o) ∧ x.r = w.heap.size ∧ orep E x a o ∧ ∀ (F : Env) id, F id = some x → rep F (k id) = some u := by
  unfold fBuildSlice at hf
  split at hf
  · rename_i e _ _ _ ht
    split at hf
    · rename_i ud sz _ z he
      obtain ⟨h1, h2⟩ := cond_some hf
      rw [Bool.and_eq_true, Bool.and_eq_true] at h1
      have hle : len * sz ≤ 100000 := Nat.le_of_ble_eq_true h1.1.1
      have hpos : 0 < sz := by simpa using h1.1.2
      have hzl : (cellsV z).length = sz := Nat.eq_of_beq_eq_true h1.2
      obtain ⟨Z, hZ, hzr⟩ := zero_cells (tyOk he) rfl w
      have hZl : Z.cells.size = sz := by rw [← Array.length_toList, reps_length (hzr E)]; exact hzl
      split at h2
      · rename_i cs hcs
        cases h2
        obtain ⟨uo, h3, h4⟩ := fillV_ok parts up _ cs _ hp (repl_ok (hzr E) len) hcs
        refine ⟨_, _, .cells uo.toArray e, .slice (some ⟨w.heap.size, 0, none⟩) len len, ⟨w.heap.size, uo.length, 0, .nilIface⟩, rfl, ?_, rfl, orep_new h4 _ _, fun F id hF => ?_⟩
        · have hs := run_sizeOf (tyOk he) w
          dsimp only at hs
          have hfin : ∀ zc : Array Value, (len * sz ≠ 0 → zc = Z.cells) → (Array.range (len * sz)).map (fun x => zc[x % zc.size]!) = ((List.replicate len Z.cells.toList).flatten).toArray := by
            intro zc hzc
            by_cases h0 : len * sz = 0
            · have : len = 0 := by rcases Nat.mul_eq_zero.1 h0 with h | h <;> omega
              subst this; simp
            · rw [hzc h0, ← hZl]; exact rep_flatten Z.cells len
          unfold Instr.buildSlice
          simp only [Sem.run_bind, run_underlying (tyOk ht).u, Result.andThen_ok, hs]
          rw [if_neg (by omega)]
          by_cases h0 : len * sz = 0
          · simp only [h0, if_true, Sem.run_bind, Sem.run_pure, Result.andThen_ok]
            have := hfin #[] (fun h => absurd h0 h)
            rw [h0] at this
            rw [this, h3]; simp [newRow]
          · simp only [h0, if_false, Sem.run_bind, hZ, Sem.run_pure, Result.andThen_ok]
            rw [hfin Z.cells (fun _ => rfl), h3]; simp [newRow]
        · simp only [rep, hF, Option.bind_some]
      · cases h2
    · cases hf
  · cases hf

theorem fMakeSlice_ok {t : TypeId} {l c : V} {ul uc : Value} {out : FO} (hl : rep E l = some ul) (hc : rep E c = some uc) (hf : fMakeSlice P t l c = some out) (w : World) :
    ∃ a k o u x, out = .a a k ∧ (Instr.makeSlice t ul uc).run P w = .ok u (w.alloc o) ∧ x.r = w.heap.size ∧ orep E x a o ∧ ∀ (F : Env) id, F id = some x → rep F (k id) = some u := by
  unfold fMakeSlice at hf
  split at hf
  · rename_i k1 n1 k2 n2
    cases hl; cases hc
    split at hf
    · rename_i e _ _ _ ht
      split at hf
      · rename_i ud sz by_ z he
        obtain ⟨h1, h2⟩ := cond_some hf
        simp only [Bool.and_eq_true] at h1
        obtain ⟨⟨⟨⟨a1, a2⟩, a3⟩, a4⟩, a5⟩ := h1
        have b1 : n1 ≤ n2 := Nat.le_of_ble_eq_true a1
        have b2 : by_ * n2 ≤ 281474976710656 := Nat.le_of_ble_eq_true a2
        have b3 : n2 ≤ 1000000 := Nat.le_of_ble_eq_true a3
        have b4 : 0 < sz := by simpa using a4
        have b5 : (cellsV z).length = sz := Nat.eq_of_beq_eq_true a5
        cases h2
        obtain ⟨Z, hZ, hzr⟩ := zero_cells (tyOk he) rfl w
        have hZl : Z.cells.size = sz := by rw [← Array.length_toList, reps_length (hzr E)]; exact b5
        obtain ⟨i, hi, hsz, hby, _⟩ := (tyOk he).info
        dsimp only at hsz hby
        refine ⟨_, _, .cells ((List.replicate n2 Z.cells.toList).flatten).toArray e, .slice (some ⟨w.heap.size, 0, none⟩) n1 n2, ⟨w.heap.size, ((List.replicate n2 Z.cells.toList).flatten).length, 0, .nilIface⟩, rfl, ?_, rfl, orep_new (repl_ok (hzr E) n2) _ _, fun F id hF => ?_⟩
        · have wr : ∀ n : Nat, n ≤ 1000000 → IntKind.i64.wrap (n : Int) = (n : Int) := fun n hn => by
            unfold IntKind.wrap; simp only [IntKind.bits, IntKind.signed]; simp; omega
          have hs := run_sizeOf (tyOk he) w
          dsimp only at hs
          have tl : ∀ n : Nat, n ≤ n2 → (decide ((n : Int) < 0) || decide ((i.bytes : Int) * (n : Int) > 2 ^ 48)) = false := fun n hn => by
            rw [hby]
            have h6 : by_ * n ≤ by_ * n2 := Nat.mul_le_mul_left _ hn
            have h7 : ((by_ : Int) * (n : Int)) = ((by_ * n : Nat) : Int) := by simp
            rw [h7]
            simp; omega
          have hfin : ∀ zc : Array Value, (n2 * sz ≠ 0 → zc = Z.cells) → (Array.range (n2 * sz)).map (fun x => zc[x % zc.size]!) = ((List.replicate n2 Z.cells.toList).flatten).toArray := by
            intro zc hzc
            by_cases h0 : n2 * sz = 0
            · have : n2 = 0 := by rcases Nat.mul_eq_zero.1 h0 with h | h <;> omega
              subst this; simp
            · rw [hzc h0, ← hZl]; exact rep_flatten Z.cells n2
          simp only [Instr.makeSlice, Sem.run_bind, run_underlying (tyOk ht).u, Result.andThen_ok, asInt, asIntOf, Sem.run_pure, run_typeInfo hi, Int.ofNat_eq_natCast, wr n1 (by omega), wr n2 b3, tl n2 (Nat.le_refl _)]
          rw [if_neg (by simp; omega)]
          simp only [Sem.run_bind, Result.andThen_ok, run_askRoom, hs, Int.toNat_natCast]
          by_cases h0 : n2 * sz = 0
          · have := hfin #[] (fun h => absurd h0 h)
            rw [h0] at this
            simp only [h0, if_true, Sem.run_bind, Sem.run_pure, Result.andThen_ok, this]
            simp [newRow]
          · simp only [h0, if_false, Sem.run_bind, hZ, Sem.run_pure, Result.andThen_ok, hfin Z.cells (fun _ => rfl)]
            simp [newRow]
        · simp only [rep, hF, Option.bind_some]
      · cases hf
    · cases hf
  · cases hf

end
end Go.Proofs.YtdjpjmojmppjkaaGreat.Eng

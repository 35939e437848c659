/- Conversions, lengths and equality are the model's. -/
import Derived.Test.YtdjpjmojmppjkaaGreatFltOk4
namespace Go.Proofs.YtdjpjmojmppjkaaGreat.Eng
open Go

section
variable {P : Program} {E : Env} {m : M} {w : World}

theorem reps_inv {v : V} {l : List V} {us : List Value} (h : reps E (v :: l) = some us) : ∃ u us', us = u :: us' ∧ rep E v = some u ∧ reps E l = some us' := by
  simp only [reps, Option.bind_eq_some_iff, Option.map_eq_some_iff] at h
  obtain ⟨u, hu, r, hr, rfl⟩ := h
  exact ⟨u, r, rfl, hu, hr⟩

theorem bytesOf_ok : ∀ (l : List V) (s : List UInt8) (us : List Value), bytesOf l = some s → reps E l = some us → ∃ ns : List Nat, us = ns.map (fun n : Nat => Value.int .u8 (n : Int)) ∧ s = ns.map UInt8.ofNat
  | [], s, us, h, hr => by
    simp only [bytesOf, Option.some.injEq] at h; subst h
    simp only [reps, Option.some.injEq] at hr; subst hr
    exact ⟨[], rfl, rfl⟩
  | v :: l, s, us, h, hr => by
    obtain ⟨u, us', rfl, hu, hr'⟩ := reps_inv hr
    simp only [bytesOf] at h
    split at h
    · rename_i c hc
      split at h
      · rename_i r hl
        cases h
        obtain ⟨ns, rfl, rfl⟩ := bytesOf_ok l r us' hl hr'
        unfold byteOf at hc
        split at hc
        · rename_i n
          cases hc; cases hu
          exact ⟨n :: ns, rfl, rfl⟩
        · cases hc
      · cases h
    · cases h

theorem push_fold (f : Value → ByteArray → Sem (ForInStep ByteArray)) (hf : ∀ (n : Int) (s : ByteArray), f (.int .u8 n) s = pure (.yield (s.push (UInt8.ofNat n.toNat)))) :
    ∀ (ns : List Nat) (acc : ByteArray), (forIn ((ns.map (fun n : Nat => Value.int .u8 (n : Int))).toArray) acc f).run P w = .ok ⟨acc.data ++ (ns.map UInt8.ofNat).toArray⟩ w := by
  intro ns acc
  rw [← Array.forIn_toList]
  induction ns generalizing acc with
  | nil => simp
  | cons n ns ih =>
    simp only [List.map_cons, List.forIn_cons, hf, Sem.run_bind, Sem.run_pure, Result.andThen_ok, Int.toNat_natCast] at ih ⊢
    rw [ih]
    congr 1
    apply ByteArray.ext
    simp [ByteArray.push]

theorem run_bytesToString {b o n : Nat} {c : Nat} {ns : List Nat} (hl : ns.length = n) (h : ∀ j, j < n → w.cell? ⟨b, o + j, none⟩ = (ns.map (fun n : Nat => Value.int .u8 (n : Int)))[j]?) :
    (Conv.bytesToString (.slice (some ⟨b, o, none⟩) n c)).run P w = .ok (.string ⟨(ns.map UInt8.ofNat).toArray⟩) w := by
  have hlc := run_loadCells (P := P) (us := ns.map (fun n : Nat => Value.int .u8 (n : Int))) (by simp [hl]) h
  unfold Conv.bytesToString
  simp only [Sem.run_bind, hlc, Result.andThen_ok]
  rw [push_fold _ (fun n s => rfl) ns ByteArray.empty, Result.andThen_ok, Sem.run_pure]
  have : ByteArray.empty.data ++ (ns.map UInt8.ofNat).toArray = (ns.map UInt8.ofNat).toArray := by
    show (#[] : Array UInt8) ++ _ = _
    simp
  rw [this]

theorem u8s_ok : ∀ (s : List UInt8), reps E (u8s s) = some (s.map fun c => .int .u8 c.toNat)
  | [] => rfl
  | c :: s => by
    show reps E (.int .u8 (.ofNat c.toNat) :: u8s s) = _
    exact reps_cons rfl (u8s_ok s)
theorem u8s_len (s : List UInt8) : (u8s s).length = s.length := by
  induction s with
  | nil => rfl
  | cons c s ih => show (V.int .u8 (.ofNat c.toNat) :: u8s s).length = _; simp [ih]

/-- A world with a block more, whatever was drawn. -/
structure New (w w1 : World) (o : Obj) : Prop where
  old : ∀ r, r < w.heap.size → w1.heap[r]? = w.heap[r]?
  new : w1.heap[w.heap.size]? = some o
  size : w1.heap.size = w.heap.size + 1
  os : w1.os = w.os
  tape : w1.tape = w.tape
  output : w1.output = w.output
theorem New.alloc (w : World) (o : Obj) : New w (w.alloc o) o :=
  ⟨fun r hr => by show (w.heap.push o)[r]? = _; rw [Array.getElem?_push, if_neg (by omega)], World.alloc_heap_new w o, by simp, rfl, rfl, rfl⟩

theorem run_stringToBytes (e : TypeId) (s : List UInt8) (w : World) : ∃ (c n : Nat) (w1 : World) (arr : Array Value), (Conv.stringToBytes e ⟨s.toArray⟩).run P w = .ok (.slice (some ⟨w.heap.size, 0, none⟩) s.length c) w1 ∧ s.length ≤ c ∧
    arr.size = c ∧ (∀ i, i < s.length → arr[i]? = (s.map fun c => Value.int .u8 c.toNat)[i]?) ∧ New w w1 (.cells arr e (c, c + n)) := by
  have hq : (Question.appendCap s.length 0 e).forced = false := rfl
  have hsz : (ByteArray.mk s.toArray).size = s.length := by show s.toArray.size = _; simp
  generalize hc : s.length + w.tape w.drawn (.appendCap s.length 0 e) % (2 ^ 63 - s.length) = c
  refine ⟨c, 1, ((w.drew).alloc (.cells (s.toArray.map (fun b : UInt8 => Value.int .u8 b.toNat) ++ Array.replicate (c - s.length) (Value.int .u8 0)) e)).freeze ⟨w.heap.size, c, none⟩ 1, s.toArray.map (fun b : UInt8 => Value.int .u8 b.toNat) ++ Array.replicate (c - s.length) (Value.int .u8 0), ?_, by omega, ?_, ?_, ?_⟩
  · have hn : (s.toArray.map (fun b : UInt8 => Value.int .u8 b.toNat) ++ Array.replicate (c - s.length) (Value.int .u8 0)).size = c := by simp; omega
    unfold Conv.stringToBytes
    simp only [Sem.run_bind, run_choose, hsz, hq, Bool.false_eq_true, if_false, Result.andThen_ok, Question.cut, hc, newRow, run_newObj, Sem.run_pure, markStringish, run_shape]
    have hsh : World.shape? { w with heap := w.heap.push (.cells (s.toArray.map (fun b : UInt8 => Value.int .u8 b.toNat) ++ Array.replicate (c - s.length) (Value.int .u8 0)) e), drawn := w.drawn + 1 } w.heap.size = some (e, c) := by
      simp only [World.shape?, Array.getElem?_push, if_true, hn]
    simp only [hsh, run_freeze, Result.andThen_ok]
    rfl
  · simp; omega
  · intro i hi
    rw [Array.getElem?_append_left (by simpa using hi)]
    simp
  · have hfz : ∀ r, (((w.drew).alloc (.cells (s.toArray.map (fun b : UInt8 => Value.int .u8 b.toNat) ++ Array.replicate (c - s.length) (Value.int .u8 0)) e)).freeze ⟨w.heap.size, c, none⟩ 1).heap[r]? =
        (if w.heap.size = r then some (.cells (s.toArray.map (fun b : UInt8 => Value.int .u8 b.toNat) ++ Array.replicate (c - s.length) (Value.int .u8 0)) e (c, c + 1)) else w.heap[r]?) := by
      intro r
      simp only [World.freeze, Nat.one_ne_zero, if_false, World.alloc, World.drew, Array.getElem?_modify, Array.getElem?_push]
      by_cases e1 : w.heap.size = r
      · subst e1; simp
      · rw [if_neg e1, if_neg e1, if_neg (fun h => e1 h.symm)]
    refine ⟨fun r hr => ?_, ?_, ?_, ?_, ?_, ?_⟩
    · rw [hfz, if_neg (by omega)]
    · rw [hfz, if_pos rfl]
    · simp [World.freeze]
    · rfl
    · rfl
    · rfl

theorem fConvert_ok (h : Rel E m w) {src dst : TypeId} {x : V} {ux : Value} {out : FO} (hx : rep E x = some ux) (hf : fConvert P src dst m x = some out) :
    (∃ v u, out = .v v ∧ (convert src dst ux).run P w = .ok u w ∧ rep E v = some u) ∨
    (∃ a k o u xb w1, out = .a a k ∧ (convert src dst ux).run P w = .ok u w1 ∧ New w w1 o ∧ xb.r = w.heap.size ∧ orep E xb a o ∧ ∀ (F : Env) id, F id = some xb → rep F (k id) = some u) := by
  unfold fConvert at hf
  split at hf
  · rename_i ys yd hys hyd
    have hu1 := (tyOk hys).u
    have hu2 := (tyOk hyd).u
    split at hf
    · rename_i k k' n hd
      rw [hd] at hu2
      split at hf
      · rename_i k2 hs
        rw [hs] at hu1
        cases hf; cases hx
        exact .inl ⟨_, _, rfl, by simp [convert, run_underlying hu1, run_underlying hu2, Conv.intToInt] <;> rfl, by rw [fw_eq]; rfl⟩
      · cases hf
    · rename_i s hd
      rw [hd] at hu2
      split at hf
      · rename_i hs
        rw [hs] at hu1
        cases hf; cases hx
        exact .inl ⟨_, _, rfl, by simp [convert, run_underlying hu1, run_underlying hu2] <;> rfl, rfl⟩
      · cases hf
    · rename_i hd
      rw [hd] at hu2
      split at hf
      · rename_i e hs
        rw [hs] at hu1
        split at hf
        · rename_i _ _ _ he
          cases hf; cases hx
          exact .inl ⟨_, .string .empty, rfl, by simp [convert, run_underlying hu1, run_underlying hu2, run_underlying (tyOk he).u, Conv.bytesToString], rfl⟩
        · cases hf
      · cases hf
    · rename_i b o l sz hd
      rw [hd] at hu2
      split at hf
      · rename_i e hs
        rw [hs] at hu1
        split at hf
        · rename_i _ _ _ he
          cases hf
          obtain ⟨a, c, rfl⟩ : ∃ a c, ux = .slice (some a) 0 c := by
            simp only [rep, Option.bind_eq_some_iff] at hx
            obtain ⟨xb, _, hx⟩ := hx
            split at hx
            · cases hx; split <;> exact ⟨_, _, rfl⟩
            · cases hx
          exact .inl ⟨_, .string .empty, rfl, by simp [convert, run_underlying hu1, run_underlying hu2, run_underlying (tyOk he).u, Conv.bytesToString, loadCells, loadCellsFrom], rfl⟩
        · cases hf
      · cases hf
    · rename_i b o len cap sz hd
      rw [hd] at hu2
      split at hf
      · rename_i e hs
        rw [hs] at hu1
        split at hf
        · rename_i _ _ _ he
          split at hf
          · rename_i l hr
            split at hf
            · rename_i s hb
              cases hf
              obtain ⟨xb, c, hbb, rfl, _, _⟩ := rep_sl hx
              obtain ⟨us, h1, h2, h3⟩ := rd_ok h hr hbb
              obtain ⟨ns, rfl, rfl⟩ := bytesOf_ok l s us hb h1
              have := run_bytesToString (P := P) (w := w) (c := c) (by simpa using h2) h3
              exact .inl ⟨_, _, rfl, by simp [convert, run_underlying hu1, run_underlying hu2, run_underlying (tyOk he).u, this] <;> rfl, rfl⟩
            · cases hf
          · cases hf
        · cases hf
      · cases hf
    · rename_i e s hd
      rw [hd] at hu2
      split at hf
      · rename_i hs
        rw [hs] at hu1
        split at hf
        · rename_i sz _ _ he
          obtain ⟨h1, h2⟩ := cond_some hf
          cases h2; cases hx
          have hz : sz = 1 := Nat.eq_of_beq_eq_true h1
          obtain ⟨c, n, w1, arr, hrun, hle, harr, hcs, hnew⟩ := run_stringToBytes (P := P) e s w
          refine .inr ⟨_, _, _, _, ⟨w.heap.size, c, 0, .nilIface⟩, w1, rfl, by simp [convert, run_underlying hu1, run_underlying hu2, run_underlying (tyOk he).u, hrun] <;> rfl, hnew, rfl, ?_, fun F id hF => ?_⟩
          · refine ⟨arr, e, _, _, rfl, harr, by rw [u8s_len]; simpa using hle, u8s_ok s, fun i hi => ?_, fun i hi hh => by dsimp only at hh hi; omega⟩
            rw [List.length_map] at hi
            rw [Nat.zero_add]; exact hcs i hi
          · simp only [rep, hF, Option.bind_some, Nat.zero_add, Nat.mul_one, hle, if_true, Nat.sub_zero, Nat.div_one]
        · cases hf
      · cases hf
    · cases hf
  · cases hf

end
end Go.Proofs.YtdjpjmojmppjkaaGreat.Eng

/- Words for the walks: what a call may change, a slice that is read, a row of bytes. -/
import Derived.Test.YtkapoeeogdcjfaaGreatProg
import Derived.Below
import Derived.Lib.Hide
import Derived.Deep.Draws
import Derived.Deep.AppendLies
import Derived.Maps.AppendAt
import Derived.OwnWalk
import Derived.Laws.BytesArg
import Derived.Laws.MakeOwn
import Derived.Laws.OwnMore
import Derived.Deep.OwnRows
import Derived.Tactics
import Derived.Lib.ConvBytes
import Derived.Laws.Slices
import Derived.WalkKit
import Derived.KernelRfl
import Derived.RowKit3
import Derived.Deep.LoopGhost
import Derived.Deep.QuietTactic
import Derived.BigQuiet
import Derived.WideLaws
import Derived.Deep.DeepCutAuto
import Derived.Deep.CutBlock
import Derived.Deep.RegionHeld3
import Derived.Laws.Rows
import Derived.Lib.AppendStr
import Derived.ArgAppend
import Derived.Laws.IdiomCopy
import Derived.OrdersHeld
import Derived.Laws.BitsLemmas
import Derived.RowKit
import Derived.WalkSpells
namespace Go.Proofs.YtkapoeeogdcjfaaGreat
open Go.RowKit

/-- What was there is as it was, but for the blocks of S; new blocks may have come. -/
structure Chg (S : Nat → Prop) (w w' : World) : Prop where
  os : w'.os = w.os
  tape : w'.tape = w.tape
  output : w'.output = w.output
  size : w.heap.size ≤ w'.heap.size
  block : ∀ k, k < w.heap.size → ¬ S k → w'.heap[k]? = w.heap[k]?

section
variable {S T : Nat → Prop} {w w1 w2 : World}
theorem Chg.refl (S : Nat → Prop) (w : World) : Chg S w w := ⟨rfl, rfl, rfl, Nat.le_refl _, fun _ _ _ => rfl⟩
theorem Chg.then (h : Chg S w w1) (k : Chg T w1 w2) (hT : ∀ i, i < w.heap.size → T i → S i) : Chg S w w2 :=
  ⟨k.os.trans h.os, k.tape.trans h.tape, k.output.trans h.output, Nat.le_trans h.size k.size, fun i hi hs => (k.block i (Nat.lt_of_lt_of_le hi h.size) (fun t => hs (hT i hi t))).trans (h.block i hi hs)⟩
theorem Chg.trans (h : Chg S w w1) (k : Chg S w1 w2) : Chg S w w2 := h.then k fun _ _ t => t
theorem Chg.weak (h : Chg S w w1) (hT : ∀ i, S i → T i) : Chg T w w1 := ⟨h.os, h.tape, h.output, h.size, fun i hi ht => h.block i hi (fun s => ht (hT i s))⟩
theorem Chg.alloc (h : Chg S w w1) (o : Obj) : Chg S w (w1.alloc o) := h.then (T := fun _ => False) ⟨rfl, rfl, rfl, by simp, fun k hk _ => Below.heap_alloc _ _ _ hk⟩ fun _ _ t => t.elim
theorem Chg.drew (h : Chg S w w1) : Chg S w w1.drew := ⟨h.os, h.tape, h.output, h.size, h.block⟩
theorem Chg.drewN (h : Chg S w w1) (n : Nat) : Chg S w (w1.drewN n) := ⟨h.os, h.tape, h.output, h.size, h.block⟩
theorem Chg.setCell (h : Chg S w w1) {p : Addr} (hp : p.block < w.heap.size → S p.block) (u : Value) : Chg S w (w1.setCell p u) :=
  ⟨h.os, h.tape, h.output, by simpa [World.setCell] using h.size, fun k hk hs => (Below.heap_setCell _ _ _ _ (fun e => hs (by subst e; exact hp hk))).trans (h.block k hk hs)⟩
theorem Chg.of_below (h : Below w.heap.size w w1) : Chg S w w1 := ⟨h.os, h.tape, h.output, h.size, fun k hk _ => h.block k hk⟩
theorem Chg.below (h : Chg (fun _ => False) w w1) : Below w.heap.size w w1 := ⟨h.os, h.tape, h.output, h.size, fun k hk => h.block k hk (fun f => f)⟩
theorem Chg.grown (h : Chg S w w1) {row : Option Nat} (hg : w1.grownBy w2 row) (hr : ∀ k, row = some k → k < w.heap.size → S k) : Chg S w w2 :=
  h.then (T := fun k => row = some k) ⟨hg.os, hg.tape, hg.output, hg.size, fun k hk hs => hg.block k hk (fun e => hs e.symm)⟩ fun i hi t => hr i t hi
/-- Old cells and old marks read as before: two rules for the walk. -/
theorem Chg.cells (h : Chg S w w1) : (∀ b o, b < w.heap.size → ¬ S b → w1.cell? ⟨b, o, none⟩ = w.cell? ⟨b, o, none⟩) ∧ (∀ b o, b < w.heap.size → ¬ S b → w1.frozen? ⟨b, o, none⟩ = w.frozen? ⟨b, o, none⟩) :=
  ⟨fun b o hb hs => World.cell?_of_block (h.block b hb hs), fun b o hb hs => World.frozen?_of_block (h.block b hb hs)⟩
theorem Chg.cell (h : Chg S w w1) {a : Addr} {v : Value} (hc : w.cell? a = some v) (hs : ¬ S a.block) : w1.cell? a = some v :=
  (World.cell?_of_block (w := w) (h.block a.block (World.block_lt_of_cell? w a hc) hs)).trans hc
theorem Chg.obj (h : Chg S w w1) {b : Nat} {o : Obj} (hc : w.heap[b]? = some o) (hs : ¬ S b) : w1.heap[b]? = some o :=
  (h.block b (Array.getElem?_eq_some_iff.1 hc).1 hs).trans hc
end

/-- A slice that is read: nil, or cells one behind the other, from an address on. -/
def Reads (w : World) (v : Value) (n sz : Nat) (xs : List Value) : Prop :=
  xs.length = n * sz ∧ ((v = .slice none 0 0 ∧ n = 0) ∨ ∃ b o cap, v = .slice (some ⟨b, o, none⟩) n cap ∧ n ≤ cap ∧ cap ≤ maxLen ∧ b < w.heap.size ∧ ∀ i x, xs[i]? = some x → w.cell? ⟨b, o + i, none⟩ = some x)

/-- The block of a slice that has something. -/
def Reads.blk : Value → Nat → Prop
  | .slice (some a) (_ + 1) _, b => a.block = b
  | _, _ => False

theorem Reads.keep {S : Nat → Prop} {w w1 : World} {v : Value} {n sz : Nat} {xs : List Value} (h : Reads w v n sz xs) (k : Chg S w w1) (hs : ∀ b, Reads.blk v b → ¬ S b) : Reads w1 v n sz xs := by
  obtain ⟨hl, h0 | ⟨b, o, cap, rfl, hn, hm, hb, hc⟩⟩ := h
  · exact ⟨hl, .inl h0⟩
  · refine ⟨hl, .inr ⟨b, o, cap, rfl, hn, hm, Nat.lt_of_lt_of_le hb k.size, fun i x hx => ?_⟩⟩
    cases n with
    | zero => simp only [Nat.zero_mul, List.length_eq_zero_iff] at hl; subst hl; simp at hx
    | succ n => exact k.cell (hc i x hx) (hs b rfl)

theorem Reads.none0 (w : World) (b o cap sz : Nat) (hb : b < w.heap.size) (h : cap ≤ maxLen) : Reads w (.slice (some ⟨b, o, none⟩) 0 cap) 0 sz [] := ⟨by simp, .inr ⟨b, o, cap, rfl, Nat.zero_le _, h, hb, fun i x hx => by simp at hx⟩⟩

theorem addr_add (b o j : Nat) : (⟨b, o, none⟩ : Addr).add j = ⟨b, o + j, none⟩ := by
  unfold Addr.add; split <;> simp_all
theorem cell_obj {w : World} {b : Nat} {c : Array Value} {t : TypeId} {f : Nat × Nat} (h : w.heap[b]? = some (.cells c t f)) (i : Nat) : w.cell? ⟨b, i, none⟩ = c[i]? := by simp [World.cell?, h]
theorem cell_new (w : World) (c : Array Value) (t : TypeId) (f : Nat × Nat) (i : Nat) : (w.alloc (.cells c t f)).cell? ⟨w.heap.size, i, none⟩ = c[i]? := cell_obj (heap_alloc_new w _) i
theorem frozen_new (w : World) (c : Array Value) (t : TypeId) (i : Nat) : (w.alloc (.cells c t)).frozen? ⟨w.heap.size, i, none⟩ = false := by
  have h := heap_alloc_new w (.cells c t)
  simp only [World.frozen?, h]; simp

/-- Bytes as cells. -/
def bytesV (xs : List Int) : List Value := xs.map fun x => .int .u8 x

end Go.Proofs.YtkapoeeogdcjfaaGreat

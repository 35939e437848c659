/- The walk of curfewlaw30.Light: it tells one truth, whoever calls it, and leaves one world. -/
import Derived.Test.YtkapoeeogdcjfaaGreatVoc
namespace Go.Proofs.YtkapoeeogdcjfaaGreat
open Go.RowKit

/-- The entries of a message, as they lie. -/
structure Ents (w : World) (a : Option Addr) (n : Nat) (x : Nat → Int × Int × Option Addr × Nat × Nat) : Prop where
  few : n ≤ maxLen
  cells : 0 < n → ∃ b o, a = some ⟨b, o, none⟩ ∧ b < w.heap.size ∧ ∀ i, i < n → w.cell? ⟨b, o + i * 3, none⟩ = some (.int .u64 (x i).1) ∧ w.cell? ⟨b, o + i * 3 + 1, none⟩ = some (.int .i64 (x i).2.1) ∧ w.cell? ⟨b, o + i * 3 + 2, none⟩ = some (.slice (x i).2.2.1 (x i).2.2.2.1 (x i).2.2.2.2)
theorem Ents.keep {w w1 : World} {a : Option Addr} {n : Nat} {x : Nat → Int × Int × Option Addr × Nat × Nat} (h : Ents w a n x) (k : Chg (fun _ => False) w w1) : Ents w1 a n x :=
  ⟨h.few, fun h0 => by
    obtain ⟨b, o, rfl, hb, hc⟩ := h.cells h0
    exact ⟨b, o, rfl, Nat.lt_of_lt_of_le hb k.size, fun i hi => ⟨k.cell (hc i hi).1 (fun f => f), k.cell (hc i hi).2.1 (fun f => f), k.cell (hc i hi).2.2 (fun f => f)⟩⟩⟩

def lightW (w : World) (x : Nat → Int × Int × Option Addr × Nat × Nat) : Nat → World
  | 0 => w
  | k + 1 => (lightW w x k).alloc (.cells #[.int .u64 (x k).1, .int .i64 (x k).2.1, .slice (x k).2.2.1 (x k).2.2.2.1 (x k).2.2.2.2] 136)
theorem lightW_chg (w : World) (x : Nat → Int × Int × Option Addr × Nat × Nat) : ∀ k, Chg (fun _ => False) w (lightW w x k)
  | 0 => Chg.refl _ _
  | k + 1 => (lightW_chg w x k).alloc _

theorem first_bad (L : Nat → Nat) (n : Nat) : ∃ m, m ≤ n ∧ (∀ i, i < m → L i ≤ 5000) ∧ (m = n ∨ (m < n ∧ 5000 < L m)) := by
  induction n with
  | zero => exact ⟨0, Nat.le_refl _, fun i h => by omega, .inl rfl⟩
  | succ n ih =>
    obtain ⟨m, h1, h2, h3⟩ := ih
    rcases h3 with rfl | h3
    · by_cases hb : 5000 < L m
      · exact ⟨m, by omega, h2, .inr ⟨by omega, hb⟩⟩
      · exact ⟨m + 1, by omega, fun i hi => by
          rcases Nat.lt_or_ge i m with h | h
          · exact h2 i h
          · have : i = m := by omega
            subst this; omega, .inl rfl⟩
    · exact ⟨m, by omega, h2, .inr ⟨by omega, h3.2⟩⟩
theorem lt_false {a b : Int} (h : ¬ a < b) : decide (a < b) = false := decide_eq_false h
theorem lt_true {a b : Int} (h : a < b) : decide (a < b) = true := decide_eq_true h

set_option maxHeartbeats 1600000 in
set_option maxRecDepth 100000 in
theorem light_walk (w : World) (a : Option Addr) (n c : Nat) (x : Nat → Int × Int × Option Addr × Nat × Nat) (h : Ents w a n x) (v0 v1 v2 v3 v4 v5 v6 v7 v8 v9 u0 u1 : Value) (a1 a2 : Option Addr) (n1 c1 n2 c2 : Nat) :
    ∃ (bb : Bool) (k : Nat), Calls Tryz.prog 20 #[.agg #[v0, v1, v2, v3, v4, v5, v6, v7, v8, v9, .slice a n c, u0, u1, .slice a1 n1 c1, .slice a2 n2 c2]] w
      fun e w' => e = .returned (.bool bb) ∧ w' = lightW (w.alloc (.cells #[v0, v1, v2, v3, v4, v5, v6, v7, v8, v9, .slice a n c, u0, u1, .slice a1 n1 c1, .slice a2 n2 c2] 29)) x k := by
  obtain ⟨m, hmn, hgood, hend⟩ := first_bad (fun i => (x i).2.2.2.1) n
  generalize hMs : (#[v0, v1, v2, v3, v4, v5, v6, v7, v8, v9, .slice a n c, u0, u1, .slice a1 n1 c1, .slice a2 n2 c2] : Array Value) = ms
  have hms : ms[10]? = some (.slice a n c) ∧ ms[13]? = some (.slice a1 n1 c1) ∧ ms[14]? = some (.slice a2 n2 c2) := by subst hMs; exact ⟨rfl, rfl, rfl⟩
  generalize hW : w.alloc (.cells ms 29) = W
  have hk : Chg (fun _ => False) w W := by subst hW; exact (Chg.refl _ _).alloc _
  have hent := h.keep hk
  have hobj : W.heap[w.heap.size]? = some (.cells ms 29) := by subst hW; exact heap_alloc_new w _
  have hsz : w.heap.size < W.heap.size := (Array.getElem?_eq_some_iff.1 hobj).1
  have hn := h.few
  unfold maxLen at hn
  have cell10 : ∀ k, (lightW W x k).cell? ⟨w.heap.size, 10, none⟩ = some (.slice a n c) := fun k => (lightW_chg W x k).cell ((cell_obj hobj 10).trans hms.1) (fun f => f)
  have cell13 : ∀ k, (lightW W x k).cell? ⟨w.heap.size, 13, none⟩ = some (.slice a1 n1 c1) := fun k => (lightW_chg W x k).cell ((cell_obj hobj 13).trans hms.2.1) (fun f => f)
  have cell14 : ∀ k, (lightW W x k).cell? ⟨w.heap.size, 14, none⟩ = some (.slice a2 n2 c2) := fun k => (lightW_chg W x k).cell ((cell_obj hobj 14).trans hms.2.2) (fun f => f)
  have c10 : W.cell? ⟨w.heap.size, 10, none⟩ = some (.slice a n c) := cell10 0
  have HE := Lib.hid hent
  have HG := Lib.hid hgood
  clear hent hgood h hk
  rcases hend with rfl | ⟨hmlt, hbad⟩
  · refine ⟨decide ((m : Int) ≤ 20) && (decide ((n1 : Int) ≤ 30) && decide ((n2 : Int) ≤ 33000)), m, ?_⟩
    go_enter Tryz.func20, Tryz.ntmps20
    go_wp2
    go_loopw [8] (fun i wr => ∃ k : Nat, k ≤ m ∧ i = .int .i64 k ∧ Hid (wr = lightW W x k)) (fun i _ => m - (intOf i).toNat)
    case atStart => exact ⟨0, Nat.zero_le _, rfl, Lib.hid rfl⟩
    case round =>
      obtain ⟨k, hk, rfl, hwr⟩ := hrel
      by_cases hlt : k < m
      · obtain ⟨b, o, rfl, hb, hc⟩ := (HE.out.keep (lightW_chg W x k)).cells (by omega)
        obtain ⟨d0, d1, d2⟩ := hc k hlt
        have hgk := HG.out k hlt
        have e1 := lt_false (a := 5000) (b := ((x k).2.2.2.1 : Int)) (by omega)
        have e2 := lt_true (a := k) (b := m) (by omega)
        have HS : Hid (lightW W x (k + 1) = (lightW W x k).alloc (.cells #[.int .u64 (x k).1, .int .i64 (x k).2.1, .slice (x k).2.2.1 (x k).2.2.2.1 (x k).2.2.2.2] 136)) := Lib.hid rfl
        rw [← hwr.out] at d0 d1 d2 HS
        clear hc cell10 cell13 cell14 c10 hobj hms hMs
        go_wp2
        go_roundw
        case rel => exact ⟨k + 1, by omega, by go_num, Lib.hid HS.out.symm⟩
        case measure => simp [intOf]; omega
      · obtain rfl : k = m := by omega
        have e2 := lt_false (a := k) (b := k) (by omega)
        have d10 := cell10 k
        have d13 := cell13 k
        have d14 := cell14 k
        rw [← hwr.out] at d10 d13 d14
        clear cell10 cell13 cell14 c10 hobj hms hMs
        go_wp2
        all_goals go_ret
        all_goals refine ⟨?_, hwr.out⟩
        all_goals clear e2 hlt hmn hk hn d10 d13 d14 hsz
        all_goals first | (simp [*]; done) | (simp [*]; intros; omega)
  · refine ⟨false, m + 1, ?_⟩
    go_enter Tryz.func20, Tryz.ntmps20
    go_wp2
    go_loopw [8] (fun i wr => ∃ k : Nat, k ≤ m ∧ i = .int .i64 k ∧ Hid (wr = lightW W x k)) (fun i _ => n - (intOf i).toNat)
    case atStart => exact ⟨0, Nat.zero_le _, rfl, Lib.hid rfl⟩
    case round =>
      obtain ⟨k, hk, rfl, hwr⟩ := hrel
      obtain ⟨b, o, rfl, hb, hc⟩ := (HE.out.keep (lightW_chg W x k)).cells (by omega)
      obtain ⟨d0, d1, d2⟩ := hc k (by omega)
      have e2 := lt_true (a := k) (b := n) (by omega)
      have HS : Hid (lightW W x (k + 1) = (lightW W x k).alloc (.cells #[.int .u64 (x k).1, .int .i64 (x k).2.1, .slice (x k).2.2.1 (x k).2.2.2.1 (x k).2.2.2.2] 136)) := Lib.hid rfl
      rw [← hwr.out] at d0 d1 d2 HS
      by_cases hlt : k < m
      · have hgk := HG.out k hlt
        have e1 := lt_false (a := 5000) (b := ((x k).2.2.2.1 : Int)) (by omega)
        clear hc cell10 cell13 cell14 c10 hobj hms hMs hgk hbad
        go_wp2
        go_roundw
        case rel => exact ⟨k + 1, by omega, by go_num, Lib.hid HS.out.symm⟩
        case measure => simp [intOf]; omega
      · obtain rfl : k = m := by omega
        have e1 := lt_true (a := 5000) (b := ((x k).2.2.2.1 : Int)) (by omega)
        clear hc cell10 cell13 cell14 c10 hobj hms hMs hbad
        go_wp2
        go_ret
        exact ⟨rfl, HS.out.symm⟩
end Go.Proofs.YtkapoeeogdcjfaaGreat

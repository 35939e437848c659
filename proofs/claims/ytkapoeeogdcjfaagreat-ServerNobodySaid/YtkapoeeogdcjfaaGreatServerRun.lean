/- ServerNobody, run by the engine whatever its numbers, truths and slices. -/
import Derived.Test.YtkapoeeogdcjfaaGreatServerLives
import Derived.Test.YtkapoeeogdcjfaaGreatLightW
namespace Go.Proofs.YtkapoeeogdcjfaaGreat
open Eng
set_option maxRecDepth 1000000

/-- The look at a message is told from outside: it is the one or the other. -/
noncomputable def orcLight (g : FuncId) (i : Nat) : CallT := fun f args m => cond (Nat.beq f g) (match args with
  | [.agg [_, _, _, _, _, _, _, _, _, _, .osli b, _, _, .osli _, .osli _]] => cond (Nat.beq b i && Nat.blt m.n 60000) (some [(.bool true, m), (.bool false, m)]) none
  | _ => none) none
noncomputable def orcS : CallT := fun f args m => match orcL 5 f args m with
  | some r => some r
  | none => orcLight 20 13 f args m

/-- The entries lie in memory that no block of the engine's stands for. -/
def ISrv (i : Nat) (E : Env) (m : M) (w : World) : Prop :=
  ∃ e a n c x, E i = some e ∧ e.x = .slice a n c ∧ Ents w a n x ∧ (0 < n → ∀ b o, a = some ⟨b, o, none⟩ → b < w.heap.size ∧ ∀ k en y, m.h.get DH k = some en → E k = some y → y.r ≠ b)

theorem iSrv_keeps (i : Nat) : Keeps (ISrv i) := by
  refine ⟨fun E m w E' m' w' hr st hi => ?_, fun E m m' w hsub hi => ?_⟩
  · obtain ⟨e, a, n, c, x, he, hx, hent, hout⟩ := hi
    refine ⟨e, a, n, c, x, st.le _ _ he, hx, ⟨hent.few, fun h0 => ?_⟩, fun h0 b o ha => ?_⟩
    · obtain ⟨b, o, rfl, hb, hc⟩ := hent.cells h0
      have ho := hout h0 b o rfl
      have hf : w'.heap[b]? = w.heap[b]? := st.frame b hb (fun k en y hk hy => ho.2 k en y (look_eq.1 hk).1 hy)
      exact ⟨b, o, rfl, Nat.lt_of_lt_of_le hb st.size, fun i hi => ⟨(World.cell?_of_block hf).trans (hc i hi).1, (World.cell?_of_block hf).trans (hc i hi).2.1, (World.cell?_of_block hf).trans (hc i hi).2.2⟩⟩
    · obtain ⟨hb, ho⟩ := hout h0 b o ha
      refine ⟨Nat.lt_of_lt_of_le hb st.size, fun k en y hk hy => ?_⟩
      cases hE : E k with
      | some z =>
        have := st.le _ _ hE
        rw [hy] at this; cases this
        cases hm : m.h.get DH k with
        | some en' => exact ho k en' y hm hE
        | none => rw [st.raw k (hr.dom k y hE).1 hm] at hk; cases hk
      | none =>
        rcases (st.img k y hy hE).2 with h1 | ⟨b0, e0, x0, h1, h2, h3⟩
        · exact fun h => by omega
        · rw [← h3]; exact ho b0 e0 x0 (look_eq.1 h1).1 h2
  · obtain ⟨e, a, n, c, x, he, hx, hent, hout⟩ := hi
    exact ⟨e, a, n, c, x, he, hx, hent, fun h0 b o ha => ⟨(hout h0 b o ha).1, fun k en y hk hy => (hout h0 b o ha).2 k en y (hsub k en hk) hy⟩⟩

theorem leave_of_calls {P : Program} {f : FuncId} {args : Array Value} {w w1 : World} {u : Value} (h : Calls P f args w (fun e w' => e = .returned u ∧ w' = w1)) : RLeave P f args w u w1 := by
  intro cs
  obtain ⟨e, w', fr, ⟨rfl, rfl⟩, h1, h2, h3⟩ := h cs
  exact ⟨fr, h1, h2, h3⟩

theorem orcLight_ok (i : Nat) : CallOk Tryz.prog (ISrv i) (orcLight 20 i) := by
  intro f args m outs E w us hs hr hu hi
  unfold orcLight at hs
  obtain ⟨hg, hs2⟩ := cond_some hs
  clear hs
  obtain rfl := Nat.eq_of_beq_eq_true hg
  clear hg
  split at hs2
  case h_2 => cases hs2
  rename_i v0 v1 v2 v3 v4 v5 v6 v7 v8 v9 b v11 v12 b1 b2
  obtain ⟨hb, hs3⟩ := cond_some hs2
  simp only [Bool.and_eq_true] at hb
  obtain rfl := Nat.eq_of_beq_eq_true hb.1
  cases hs3
  obtain ⟨e, a, n, c, x, he, hx, hent, hout⟩ := hi
  obtain ⟨u, us', rfl, hru, hr0⟩ := reps_inv hu
  simp only [reps, Option.some.injEq] at hr0; subst hr0
  simp only [rep, Option.map_eq_some_iff] at hru
  obtain ⟨cs, hcs, rfl⟩ := hru
  obtain ⟨u0, _, rfl, _, g0⟩ := reps_inv hcs
  obtain ⟨u1, _, rfl, _, g1⟩ := reps_inv g0
  obtain ⟨u2, _, rfl, _, g2⟩ := reps_inv g1
  obtain ⟨u3, _, rfl, _, g3⟩ := reps_inv g2
  obtain ⟨u4, _, rfl, _, g4⟩ := reps_inv g3
  obtain ⟨u5, _, rfl, _, g5⟩ := reps_inv g4
  obtain ⟨u6, _, rfl, _, g6⟩ := reps_inv g5
  obtain ⟨u7, _, rfl, _, g7⟩ := reps_inv g6
  obtain ⟨u8, _, rfl, _, g8⟩ := reps_inv g7
  obtain ⟨u9, _, rfl, _, g9⟩ := reps_inv g8
  obtain ⟨u10, _, rfl, k10, g10⟩ := reps_inv g9
  obtain ⟨u11, _, rfl, _, g11⟩ := reps_inv g10
  obtain ⟨u12, _, rfl, _, g12⟩ := reps_inv g11
  obtain ⟨u13, _, rfl, k13, g13⟩ := reps_inv g12
  obtain ⟨u14, _, rfl, k14, g14⟩ := reps_inv g13
  simp only [reps, Option.some.injEq] at g14; subst g14
  obtain ⟨a1, n1, c1, rfl, _⟩ := rep_osli k13
  obtain ⟨a2, n2, c2, rfl, _⟩ := rep_osli k14
  have hu10 : u10 = .slice a n c := by
    simp only [rep, he, Option.bind_some] at k10
    unfold EB.sli at k10
    rw [hx] at k10
    exact (Option.some.inj k10).symm
  subst hu10
  obtain ⟨bb, k, hw⟩ := light_walk w a n c x hent u0 u1 u2 u3 u4 u5 u6 u7 u8 u9 u11 u12 a1 a2 n1 c1 n2 c2
  have hch : Chg (fun _ => False) w (lightW (w.alloc (.cells #[u0, u1, u2, u3, u4, u5, u6, u7, u8, u9, .slice a n c, u11, u12, .slice a1 n1 c1, .slice a2 n2 c2] 29)) x k) := ((Chg.refl _ _).alloc _).trans (lightW_chg _ x k)
  generalize lightW (w.alloc (.cells #[u0, u1, u2, u3, u4, u5, u6, u7, u8, u9, .slice a n c, u11, u12, .slice a1 n1 c1, .slice a2 n2 c2] 29)) x k = w' at hw hch
  have fr : ∀ r, r < w.heap.size → w'.heap[r]? = w.heap[r]? := fun r hr2 => hch.block r hr2 (fun f => f)
  have rel : Rel E { m with n := m.n } w' := hr.ext E.le_refl (fun b x hx hn => by rw [hn] at hx; cases hx) (Nat.le_refl _) hr.cap (fun b e x _ hx => fr _ (hr.dom b x hx).2) hch.size
  exact ⟨.bool bb, m, E, w', .bool bb, by cases bb <;> simp, leave_of_calls hw, rfl, rel, ⟨E.le_refl, Nat.le_refl _, fun b e _ he => ⟨e, he⟩, fun b x hx hn => (by rw [hn] at hx; cases hx), fun r hr2 _ => fr r hr2, hch.size, hch.os, hch.tape, hch.output, fun _ _ hn => hn, fun _ e he => ⟨e, he⟩, [], rfl, fun _ _ he _ _ => ⟨he, rfl⟩⟩, fun xs hxs => by simp [callFunc, Tryz.func20, Tryz.f20]⟩

theorem orcS_ok : CallOk Tryz.prog (ISrv 13) orcS := by
  intro f args m outs E w us hs hr hu hi
  unfold orcS at hs
  split at hs
  · rename_i r hr1
    cases hs
    exact orcL_ok mixed server_lives f args m _ E w us hr1 hr hu trivial
  · exact orcLight_ok 13 f args m outs E w us hs hr hu hi

def opV (b1 b2 : Bool) : V := .agg [.symi .i64 false 0, .symi .i64 false 1, .symi .i64 false 2, .symi .u64 false 3, .symi .u64 false 4, .symi .i64 false 5, .symi .i64 false 6, .symi .i64 false 7, .symi .u64 false 8, .symi .u64 false 9, .symi .u64 false 10, .symi .u64 false 11, .symi .u64 false 12, .bool b1, .bool b2, .osli 13, .symi .u64 false 14, .symi .u64 false 15, .osli 16, .osli 17, .osli 18, .osli 19, .osli 20]
abbrev mS : M := ⟨.leaf, .leaf, 21, []⟩
theorem runs_tt : okRun (callO Tryz.prog orcS 1000000 60 3 [opV true true] mS) = true := by kernel_rfl
theorem runs_tf : okRun (callO Tryz.prog orcS 1000000 60 3 [opV true false] mS) = true := by kernel_rfl
theorem runs_ft : okRun (callO Tryz.prog orcS 1000000 60 3 [opV false true] mS) = true := by kernel_rfl
theorem runs_ff : okRun (callO Tryz.prog orcS 1000000 60 3 [opV false false] mS) = true := by kernel_rfl
theorem runs_all (b1 b2 : Bool) : okRun (callO Tryz.prog orcS 1000000 60 3 [opV b1 b2] mS) = true := by
  cases b1 <;> cases b2
  · exact runs_ff
  · exact runs_ft
  · exact runs_tf
  · exact runs_tt

/-- What stands behind the numbers. -/
def EX (xs : List Value) : Env := fun i => (xs[i]?).map fun v => ⟨0, 0, 0, v⟩

theorem run_orcI {P : Program} (hm : P.follows .mixedOrders = true) {I : Env → M → World → Prop} (hI : Keeps I) {orc : CallT} (ho : CallOk P I orc) {E0 : Env} {n : Nat} {fuel d : Nat} {f : FuncId} {args : List V} {us : List Value} (h : okRun (callO P orc fuel d f args ⟨.leaf, .leaf, n, []⟩) = true)
    (w : World) (hr : Rel E0 ⟨.leaf, .leaf, n, []⟩ w) (hi : I E0 ⟨.leaf, .leaf, n, []⟩ w) (hu : reps E0 args = some us) :
    Calls P f us.toArray w (fun e w' => e = .returned (.bool true) ∧ Go.RowKit.Below w.heap.size w w') := by
  unfold okRun at h
  split at h
  case h_2 => cases h
  rename_i l hl
  obtain ⟨v, m1, E', w', u, hmem, hl1, hr1, hrel, hst, _⟩ := engine_ok hm hI ho fuel d f args _ l E0 w us hl hr hu hi
  have hv := List.all_eq_true.1 h _ hmem
  split at hv
  case h_2 => cases hv
  rename_i heq
  dsimp only at heq
  subst heq
  cases hr1
  intro cs
  obtain ⟨fr, h1, h2, h3⟩ := hl1 cs
  exact ⟨_, w', fr, ⟨rfl, ⟨hst.os, hst.tape, hst.output, hst.size, fun r hr2 => hst.frame r hr2 (fun b e x hb _ => by cases hb)⟩⟩, h1, h2, h3⟩

theorem relX {xs : List Value} {w : World} (h0 : 0 < w.heap.size) (hn : xs.length ≤ 65536) : Rel (EX xs) ⟨.leaf, .leaf, xs.length, []⟩ w := by
  refine ⟨fun b x h => ?_, hn, fun _ _ h => (by cases h), fun _ _ h => (by cases h), fun _ _ _ _ _ _ h => (by cases h), fun _ _ _ _ _ _ h => (by cases h), fun _ _ _ _ h => (by cases h), fun _ _ _ _ h => (by cases h), fun _ _ h => (by cases h)⟩
  simp only [EX, Option.map_eq_some_iff] at h
  obtain ⟨v, hv, rfl⟩ := h
  exact ⟨(List.getElem?_eq_some_iff.1 hv).1, h0⟩

theorem server_calls (n0 n1 n2 n3 n4 n5 n6 n7 n8 n9 n10 n11 n12 n14 n15 : Int) (b1 b2 : Bool) (a13 a16 a17 a18 a19 a20 : Option Addr) (l13 c13 l16 c16 l17 c17 l18 c18 l19 c19 l20 c20 : Nat) (w : World) (h0 : 0 < w.heap.size) (x : Nat → Int × Int × Option Addr × Nat × Nat) (hent : Ents w a13 l13 x) :
    Calls Tryz.prog 3 #[.agg #[.int .i64 n0, .int .i64 n1, .int .i64 n2, .int .u64 n3, .int .u64 n4, .int .i64 n5, .int .i64 n6, .int .i64 n7, .int .u64 n8, .int .u64 n9, .int .u64 n10, .int .u64 n11, .int .u64 n12, .bool b1, .bool b2, .slice a13 l13 c13, .int .u64 n14, .int .u64 n15, .slice a16 l16 c16, .slice a17 l17 c17, .slice a18 l18 c18, .slice a19 l19 c19, .slice a20 l20 c20]] w
      (fun e w' => e = .returned (.bool true) ∧ Go.RowKit.Below w.heap.size w w') := by
  refine run_orcI mixed (iSrv_keeps 13) orcS_ok (E0 := EX [.int .i64 n0, .int .i64 n1, .int .i64 n2, .int .u64 n3, .int .u64 n4, .int .i64 n5, .int .i64 n6, .int .i64 n7, .int .u64 n8, .int .u64 n9, .int .u64 n10, .int .u64 n11, .int .u64 n12, .slice a13 l13 c13, .int .u64 n14, .int .u64 n15, .slice a16 l16 c16, .slice a17 l17 c17, .slice a18 l18 c18, .slice a19 l19 c19, .slice a20 l20 c20]) (runs_all b1 b2) w (relX h0 (show (21 : Nat) ≤ 65536 by omega)) ⟨_, a13, l13, c13, x, rfl, rfl, hent, fun hp b o ha => ⟨?_, fun k en y hk _ => by cases hk⟩⟩ rfl
  obtain ⟨b', o', hb, hlt, _⟩ := hent.cells hp
  rw [ha] at hb; cases hb; exact hlt
end Go.Proofs.YtkapoeeogdcjfaaGreat

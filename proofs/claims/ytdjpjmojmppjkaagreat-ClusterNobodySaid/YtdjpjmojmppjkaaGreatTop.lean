/- A run from the empty memory. -/
import Derived.Test.YtdjpjmojmppjkaaGreatDrawn6
import Derived.Below
namespace Go.Proofs.YtdjpjmojmppjkaaGreat.Eng
open Go Go.RowKit

abbrev E0 : Env := fun _ => none
abbrev m0 : M := ⟨.leaf, .leaf, 0, []⟩
theorem rel0 (w : World) : Rel E0 m0 w := ⟨fun _ _ h => (by cases h), Nat.zero_le _, fun _ _ h => (by cases h), fun _ _ h => (by cases h), fun _ _ _ _ _ _ h => (by cases h), fun _ _ _ _ _ _ h => (by cases h), fun _ _ _ _ h => (by cases h), fun _ _ _ _ h => (by cases h), fun _ _ h => (by cases h)⟩

theorem below_of {E' : Env} {m' : M} {w w' : World} (h : Step E0 m0 w E' m' w') : Below w.heap.size w w' :=
  ⟨h.os, h.tape, h.output, h.size, fun r hr => h.frame r hr (fun _ _ _ _ hx => by cases hx)⟩

theorem run_ok {P : Program} (hm : P.follows .mixedOrders = true) {fuel d : Nat} {f : FuncId} {args : List V} {us : List Value} (h : okRun (call P fuel d f args m0) = true) (hu : reps E0 args = some us) (w : World) :
    Calls P f us.toArray w (fun e w' => e = .returned (.bool true) ∧ Below w.heap.size w w') := by
  unfold okRun at h
  split at h
  case h_2 => cases h
  rename_i l hl
  obtain ⟨v, m1, E', w', u, hmem, hl1, hr, hrel, hst, _⟩ := engine_ok' hm fuel d f args m0 l E0 w us hl (rel0 w) hu trivial
  have hv := List.all_eq_true.1 h _ hmem
  split at hv
  case h_2 => cases hv
  rename_i heq
  dsimp only at heq
  subst heq
  cases hr
  intro cs
  obtain ⟨fr, h1, h2, h3⟩ := hl1 cs
  exact ⟨_, w', fr, ⟨rfl, below_of hst⟩, h1, h2, h3⟩

/-- A closed function that returns true, told as a whole. -/
noncomputable def orcL (g : FuncId) : CallT := fun f args m => cond (Nat.beq f g) (match args with
  | [] => some [(.bool true, m)]
  | _ => none) none

theorem orcL_ok {P : Program} (hm : P.follows .mixedOrders = true) {fuel d : Nat} {g : FuncId} (h : okRun (call P fuel d g [] m0) = true) : CallOk P (fun _ _ _ => True) (orcL g) := by
  intro f args m outs E w us hs hr hu _
  unfold orcL at hs
  obtain ⟨hg, hs2⟩ := cond_some hs
  clear hs
  have hfg : f = g := Nat.eq_of_beq_eq_true hg
  subst hfg
  clear hg
  split at hs2
  case h_2 => cases hs2
  cases hs2
  simp only [reps, Option.some.injEq] at hu; subst hu
  unfold okRun at h
  split at h
  case h_2 => cases h
  rename_i l hl
  obtain ⟨v, m1, E', w', u, hmem, hl1, hru, hrel, hst, hcf⟩ := engine_ok' hm fuel d f [] m0 l E0 w [] hl (rel0 w) rfl trivial
  have hv := List.all_eq_true.1 h _ hmem
  split at hv
  case h_2 => cases hv
  rename_i heq
  dsimp only at heq
  subst heq
  cases hru
  have fr : ∀ r, r < w.heap.size → w'.heap[r]? = w.heap[r]? := fun r hr2 => hst.frame r hr2 (fun _ _ _ _ hx => by cases hx)
  have rel : Rel E { m with n := m.n } w' := hr.ext E.le_refl (fun b x hx hn => by rw [hn] at hx; cases hx) (Nat.le_refl _) hr.cap (fun b e x _ hx => fr _ (hr.dom b x hx).2) hst.size
  exact ⟨.bool true, m, E, w', .bool true, by simp, hl1, rfl, rel, ⟨E.le_refl, Nat.le_refl _, fun b e _ he => ⟨e, he⟩, fun b x hx hn => (by rw [hn] at hx; cases hx), fun r hr2 _ => fr r hr2, hst.size, hst.os, hst.tape, hst.output, fun _ _ hn => hn, fun _ e he => ⟨e, he⟩, [], rfl, fun _ _ he _ _ => ⟨he, rfl⟩⟩, hcf⟩

theorem run_orc {P : Program} (hm : P.follows .mixedOrders = true) {orc : CallT} (ho : CallOk P (fun _ _ _ => True) orc) {fuel d : Nat} {f : FuncId} {args : List V} {us : List Value} (h : okRun (callO P orc fuel d f args m0) = true) (hu : reps E0 args = some us) (w : World) :
    Calls P f us.toArray w (fun e w' => e = .returned (.bool true) ∧ Below w.heap.size w w') := by
  unfold okRun at h
  split at h
  case h_2 => cases h
  rename_i l hl
  obtain ⟨v, m1, E', w', u, hmem, hl1, hr, hrel, hst, _⟩ := engine_ok hm ⟨fun _ _ _ _ _ _ _ _ _ => trivial, fun _ _ _ _ _ _ => trivial⟩ ho fuel d f args m0 l E0 w us hl (rel0 w) hu trivial
  have hv := List.all_eq_true.1 h _ hmem
  split at hv
  case h_2 => cases hv
  rename_i heq
  dsimp only at heq
  subst heq
  cases hr
  intro cs
  obtain ⟨fr, h1, h2, h3⟩ := hl1 cs
  exact ⟨_, w', fr, ⟨rfl, below_of hst⟩, h1, h2, h3⟩
end Go.Proofs.YtdjpjmojmppjkaaGreat.Eng

/- What a function reaches, reckoned quickly: a table of what each function names, and a tree of what was seen. -/
import Derived.Test.YtdjpjmojmppjkaaGreatTrie
import GoSem.ClaimFn
namespace Go.Proofs.YtdjpjmojmppjkaaGreat
open Eng

/-- The table of what each function leads to. -/
theorem leads_of {P : Program} {tab : List (List FuncId)} (h : P.funcs.toList.map P.leadsTo = tab) (g : FuncId) : (P.funcs[g]?).elim [] P.leadsTo = (tab[g]?).getD [] := by
  rw [← h, List.getElem?_map, Array.getElem?_toList]
  cases P.funcs[g]? <;> rfl

noncomputable def cvZ (todo : List FuncId) (_ : T Unit) (s : List FuncId) : Option (List FuncId) := List.casesOn todo (some s) (fun _ _ => none)
noncomputable def cvS (tt : T (List FuncId)) (_ : Nat) (ih : List FuncId → T Unit → List FuncId → Option (List FuncId)) (todo : List FuncId) (st : T Unit) (s : List FuncId) : Option (List FuncId) :=
  List.casesOn todo (some s) (fun f l => match st.get 0 f with
    | some _ => ih l st s
    | none => ih (match tt.get 0 f with | some x => apR x l | none => l) (st.set () 0 f) (f :: s))
/-- The closure, told backwards; none: not enough steps. -/
noncomputable def cv (tt : T (List FuncId)) (n : Nat) : List FuncId → T Unit → List FuncId → Option (List FuncId) := Nat.rec (motive := fun _ => List FuncId → T Unit → List FuncId → Option (List FuncId)) cvZ (cvS tt) n

theorem getT0 {α : Type} (t : T α) (d d' k : Nat) : t.get d k = t.get d' k := rfl
theorem set_get (st : T Unit) (f k : Nat) : ((st.set () 0 f).get 0 k).isSome = (decide (f = k) || (st.get 0 k).isSome) := by
  show ((st.setP () (pa f)).getP (pa k)).isSome = _
  rw [T.getP_setP]
  by_cases e : f = k
  · rw [if_pos (by rw [e])]; simp [e]
  · rw [if_neg (fun h => e (pa_inj h))]; simp [e]; rfl

theorem cv_ok {P : Program} {tt : T (List FuncId)} (ht : ∀ g, (P.funcs[g]?).elim [] P.leadsTo = (tt.get 0 g).getD []) :
    ∀ (n : Nat) (todo : List FuncId) (st : T Unit) (s L : List FuncId), cv tt n todo st s = some L → (∀ k, (st.get 0 k).isSome = s.contains k) → ∀ m, n ≤ m → P.closureVia m todo s = L.reverse := by
  intro n
  induction n with
  | zero =>
    intro todo st s L h hs m hm
    cases todo with
    | nil => cases h; unfold Program.closureVia; split <;> simp_all
    | cons f l => cases h
  | succ n ih =>
    intro todo st s L h hs m hm
    cases todo with
    | nil => cases h; unfold Program.closureVia; split <;> simp_all
    | cons f l =>
      obtain ⟨m, rfl⟩ : ∃ k, m = k + 1 := ⟨m - 1, by omega⟩
      have h' : (match st.get 0 f with
        | some _ => cv tt n l st s
        | none => cv tt n (match tt.get 0 f with | some x => apR x l | none => l) (st.set () 0 f) (f :: s)) = some L := h
      unfold Program.closureVia
      rw [← hs f]
      cases hf : st.get 0 f with
      | some u =>
        rw [hf] at h'
        rw [if_pos (by rfl)]
        exact ih l st s L h' hs m (by omega)
      | none =>
        rw [hf] at h'
        rw [if_neg (by simp)]
        rw [ht f]
        have e : (match tt.get 0 f with | some x => apR x l | none => l) = (tt.get 0 f).getD [] ++ l := by
          cases tt.get 0 f with
          | none => rfl
          | some x => exact apR_eq x l
        dsimp only at h'
        rw [e] at h'
        refine ih _ _ _ L h' (fun k => ?_) m (by omega)
        rw [set_get, hs k, List.contains_cons]
        congr 1
        rw [Bool.eq_iff_iff]; simp; exact eq_comm

theorem cv_empty (k : Nat) : ((T.leaf : T Unit).get 0 k).isSome = ([] : List FuncId).contains k := rfl

theorem closure_of {P : Program} {tab : List (List FuncId)} {L : List FuncId} {f : FuncId} {n : Nat} (htab : P.funcs.toList.map P.leadsTo = tab) (hl : tab.length ≤ 2 ^ 12)
    (h : cv (T.ofList 12 tab) n [f] .leaf [] = some L) (hn : Nat.ble n (1 + (tab.map fun l => l.length + 1).sum) = true) : P.closure f = L.reverse := by
  have ht : ∀ g, (P.funcs[g]?).elim [] P.leadsTo = ((T.ofList 12 tab).get 0 g).getD [] := fun g => by
    rw [leads_of htab, getT0 _ 0 12, T.get_ofList 12 tab hl]
  unfold Program.closure
  refine cv_ok ht n [f] .leaf [] L h cv_empty _ ?_
  have e : P.funcs.toList.map (fun g => (P.leadsTo g).length + 1) = tab.map fun l => l.length + 1 := by rw [← htab, List.map_map]; rfl
  rw [e]
  exact Nat.le_of_ble_eq_true hn

/-- Facts of each function, gathered along a closure. -/
theorem filterMap_of {P : Program} {α : Type} {φ : Func → Option α} {nm : List (Option α)} (h : P.funcs.toList.map φ = nm) (L : List FuncId) :
    L.filterMap (fun g => (P.funcs[g]?).bind φ) = L.filterMap fun g => (nm[g]?).join := by
  congr 1
  funext g
  rw [← h, List.getElem?_map, Array.getElem?_toList]
  cases P.funcs[g]? <;> rfl
theorem nm_tree {α : Type} {nm : List (Option α)} (hl : nm.length ≤ 2 ^ 12) (L : List FuncId) : L.filterMap (fun g => (nm[g]?).join) = L.filterMap fun g => ((T.ofList 12 nm).get 12 g).join := by
  congr 1; funext g; rw [T.get_ofList 12 nm hl]

theorem map_append {α β : Type} {f : α → β} {l : List α} {a b : Nat} {x y : List β} (h : ((l.drop a).take b).map f = x) (k : (l.drop (a + b)).map f = y) : (l.drop a).map f = x ++ y := by
  rw [← h, ← k, ← List.map_append, ← List.drop_drop, List.take_append_drop]
theorem funcNamed_of {P : Program} {name : String} {nm : List Bool} {n : Nat} {f : FuncId} (h : P.funcs.toList.map (fun fn => fn.name == name) = nm) (hs : P.funcs.size = n) (hl : nm.length ≤ 2 ^ 12)
    (hf : (List.range n).filter (fun i => ((T.ofList 12 nm).get 12 i).any id) = [f]) : P.funcNamed name = some f := by
  have e : (fun i => (P.funcs[i]?).any (·.name == name)) = fun i => ((T.ofList 12 nm).get 12 i).any id := by
    funext i
    rw [T.get_ofList 12 nm hl, ← h, List.getElem?_map, Array.getElem?_toList]
    cases P.funcs[i]? <;> rfl
  unfold Program.funcNamed
  rw [e, hs, hf]
theorem all_append {α : Type} {f : α → Bool} {l : List α} {a b : Nat} (h : ((l.drop a).take b).all f = true) (k : (l.drop (a + b)).all f = true) : (l.drop a).all f = true := by
  rw [← List.take_append_drop b (l.drop a), List.all_append, h, List.drop_drop, k]; rfl
theorem varsNamed_none {P : Program} (h : (P.funcs.toList.all fun fn => (fn.body.elim [] Code.globalsNamed).isEmpty && (if fn.body.isNone then entryReads.lookup fn.name else none).isNone) = true) (f : FuncId) : P.varsNamed f = [] := by
  have get : ∀ (g : FuncId) (fn : Func), P.funcs[g]? = some fn → fn.body.elim [] Code.globalsNamed = [] ∧ (if fn.body.isNone then entryReads.lookup fn.name else none) = none := fun g fn hg => by
    have hm : fn ∈ P.funcs.toList := by
      rw [← Array.getElem?_toList] at hg; exact List.mem_of_getElem? hg
    have := List.all_eq_true.1 h fn hm
    simp only [Bool.and_eq_true] at this
    exact ⟨List.isEmpty_iff.1 this.1, Option.isNone_iff_eq_none.1 this.2⟩
  have e1 : ((P.closure f).flatMap fun g => ((P.funcs[g]?).bind (·.body)).elim [] Code.globalsNamed) = [] := by
    rw [List.flatMap_eq_nil_iff]
    intro g _
    cases hg : P.funcs[g]? with
    | none => rfl
    | some fn => exact (get g fn hg).1
  have e2 : ((P.closure f).filterMap fun g => (P.funcs[g]?).bind fun fn => if fn.body.isNone then entryReads.lookup fn.name else none) = [] := by
    rw [List.filterMap_eq_nil_iff]
    intro g _
    cases hg : P.funcs[g]? with
    | none => rfl
    | some fn => exact (get g fn hg).2
  unfold Program.varsNamed
  rw [e1, e2]
  rfl
end Go.Proofs.YtdjpjmojmppjkaaGreat

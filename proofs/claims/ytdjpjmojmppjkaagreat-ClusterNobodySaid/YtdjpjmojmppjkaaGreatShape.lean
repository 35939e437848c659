/- Arguments of numbers, truths and slices, as the engine has them. -/
import Derived.Test.YtdjpjmojmppjkaaGreatTop
import Derived.ChangeArms
import Derived.ChangeShapes
namespace Go.Proofs.YtdjpjmojmppjkaaGreat.Eng
open Go Go.ChangeShapes Go.WideShapes

inductive Sh where
  | int (k : IntKind)
  | bool
  | slice
def Fits1 : Sh → V → Prop
  | .int k, v => ∃ n, v = .sym k n
  | .bool, v => ∃ b, v = .bool b
  | .slice, v => ∃ a n c, v = .osl a n c
def FitsL : List Sh → List V → Prop
  | [], [] => True
  | s :: l, v :: r => Fits1 s v ∧ FitsL l r
  | _, _ => False
theorem fits_inv {s : Sh} {l : List Sh} {vs : List V} (h : FitsL (s :: l) vs) : ∃ v r, vs = v :: r ∧ Fits1 s v ∧ FitsL l r := by
  cases vs with
  | nil => exact h.elim
  | cons v r => exact ⟨v, r, rfl, h.1, h.2⟩
theorem fits_nil {vs : List V} (h : FitsL [] vs) : vs = [] := by
  cases vs with
  | nil => rfl
  | cons v r => exact h.elim
theorem FitsL.append : ∀ {l l' : List Sh} {r r' : List V}, FitsL l r → FitsL l' r' → FitsL (l ++ l') (r ++ r')
  | [], _, [], _, _, h => h
  | _ :: _, _, _ :: _, _, ⟨h1, h2⟩, h => ⟨h1, FitsL.append h2 h⟩
  | [], _, _ :: _, _, h, _ => h.elim
  | _ :: _, _, [], _, h, _ => h.elim
theorem FitsL.length : ∀ {l : List Sh} {r : List V}, FitsL l r → r.length = l.length
  | [], [], _ => rfl
  | _ :: _, _ :: _, ⟨_, h⟩ => by simp [FitsL.length h]
  | [], _ :: _, h => h.elim
  | _ :: _, [], h => h.elim

noncomputable def shps (P : Program) (ih : TypeId → Option (List Sh)) : List Field → Nat → Option (List Sh) := fun l => List.rec (fun _ => some []) (fun f _ k acc => cond (Nat.beq f.offset acc) (match ih f.type with
  | some a => cond (Nat.beq (P.cellsOf f.type) a.length) (match k (acc + a.length) with | some r => some (a ++ r) | none => none) none
  | none => none) none) l
noncomputable def shp (P : Program) (n : Nat) : TypeId → Option (List Sh) := Nat.rec (fun _ => none) (fun _ ih t => match P.underlying t with
  | some (.int k) => some [.int k]
  | some .bool => some [.bool]
  | some (.slice _) => some [.slice]
  | some (.struct fs) => (match shps P ih fs.toList 0 with
    | some l => cond (Nat.beq (P.cellsOf t) l.length) (some l) none
    | none => none)
  | _ => none) n

section
variable {H : Type} {enc : TypeId × Value → H} {P : Program} {w : World} {base : Nat} {spare : Nat → Bool} {held : Bool} {E : Env}

theorem shps_ok {ih : TypeId → Option (List Sh)} {cs : List Value} (hih : ∀ t l fuel cs' x, ih t = some l → DataW.trod enc P w base spare held fuel t cs' = some x → ∃ vs, reps E vs = some cs' ∧ FitsL l vs) :
    ∀ (fl : List Field) (acc : Nat) (l : List Sh), shps P ih fl acc = some l → (∀ f ∈ fl, ∃ n x, DataW.trod enc P w base spare held n f.type ((cs.drop f.offset).take (P.cellsOf f.type)) = some x) → acc + l.length = cs.length → ∃ vs, reps E vs = some (cs.drop acc) ∧ FitsL l vs
  | [], acc, l, h, _, hlen => by
    cases h
    refine ⟨[], ?_, trivial⟩
    rw [List.drop_eq_nil_of_le (by simp at hlen; omega)]; rfl
  | f :: fl, acc, l, h, hf, hlen => by
    have h' : cond (Nat.beq f.offset acc) (match ih f.type with
      | some a => cond (Nat.beq (P.cellsOf f.type) a.length) (match shps P ih fl (acc + a.length) with | some r => some (a ++ r) | none => none) none
      | none => none) none = some l := h
    obtain ⟨h1, h2⟩ := cond_some h'
    have hoff := Nat.eq_of_beq_eq_true h1
    split at h2
    case h_2 => cases h2
    rename_i a ha
    obtain ⟨h3, h4⟩ := cond_some h2
    have hc := Nat.eq_of_beq_eq_true h3
    split at h4
    case h_2 => cases h4
    rename_i r hr
    cases h4
    obtain ⟨n, x, hx⟩ := hf f (by simp)
    obtain ⟨vs1, k1, k2⟩ := hih f.type a n _ x ha hx
    rw [List.length_append] at hlen
    obtain ⟨vs2, k3, k4⟩ := shps_ok hih fl (acc + a.length) r hr (fun g hg => hf g (by simp [hg])) (by omega)
    refine ⟨vs1 ++ vs2, ?_, k2.append k4⟩
    have := reps_append k1 k3
    rw [this, hoff, hc]
    congr 1
    rw [← List.drop_drop]
    exact List.take_append_drop _ _

theorem shp_ok : ∀ (n : Nat) (t : TypeId) (l : List Sh) (fuel : Nat) (cs : List Value) (x : DataW H × List MemPlace), shp P n t = some l → DataW.trod enc P w base spare held fuel t cs = some x → ∃ vs, reps E vs = some cs ∧ FitsL l vs
  | 0, _, _, _, _, _, h, _ => by cases h
  | n + 1, t, l, fuel, cs, x, h, hx => by
    have h' : (match P.underlying t with
      | some (.int k) => some [.int k]
      | some .bool => some [.bool]
      | some (.slice _) => some [.slice]
      | some (.struct fs) => (match shps P (shp P n) fs.toList 0 with
        | some l => cond (Nat.beq (P.cellsOf t) l.length) (some l) none
        | none => none)
      | _ => none) = some l := h
    split at h'
    · rename_i k hk
      cases h'
      obtain ⟨a, rfl, _⟩ := DataW.trod_int hk hx
      exact ⟨[.sym k a], rfl, ⟨_, rfl⟩, trivial⟩
    · rename_i hk
      cases h'
      obtain ⟨b, rfl, _⟩ := DataW.trod_bool hk hx
      exact ⟨[.bool b], rfl, ⟨_, rfl⟩, trivial⟩
    · rename_i hk
      cases h'
      rcases DataW.trod_slice hk hx with ⟨rfl, _⟩ | ⟨a, len, cap, _, _, _, _, rfl, _⟩
      · exact ⟨[.osl none 0 0], rfl, ⟨_, _, _, rfl⟩, trivial⟩
      · exact ⟨[.osl (some a) len cap], rfl, ⟨_, _, _, rfl⟩, trivial⟩
    · rename_i fs hk
      split at h'
      case h_2 => cases h'
      rename_i l' hl'
      obtain ⟨h1, h2⟩ := cond_some h'
      cases h2
      have hc := Nat.eq_of_beq_eq_true h1
      obtain ⟨xs, m, _, _, hlen, hxl, hf⟩ := DataW.trod_struct hk hx
      have := shps_ok (E := E) (fun t l fuel cs' x h1 h2 => shp_ok n t l fuel cs' x h1 h2) fs.toList 0 l hl' (fun f hfm => by
        obtain ⟨i, hi⟩ := List.getElem?_of_mem hfm
        rw [Array.getElem?_toList] at hi
        have hilt : i < fs.size := (Array.getElem?_eq_some_iff.1 hi).1
        exact ⟨m, _, (hf i f hi).trans (List.getElem?_eq_getElem (by omega))⟩) (by omega)
      simpa using this
    · cases h'
end
end Go.Proofs.YtdjpjmojmppjkaaGreat.Eng

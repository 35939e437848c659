/- All operations that write. -/
import Derived.Test.YtdjpjmojmppjkaaGreatEffOk4
namespace Go.Proofs.YtdjpjmojmppjkaaGreat.Eng
open Go

section
variable {P : Program} {E : Env} {m m' : M} {w : World}

/-- What comes of an operation is one of what the engine tells. -/
def Comes1 (P : Program) (E : Env) (m : M) (w : World) (s : Sem Next) (outs : List (V × M)) : Prop :=
  ∃ v m1 E' w', (v, m1) ∈ outs ∧ ((∃ u, s.run P w = .ok (.value u) w' ∧ rep E' v = some u) ∨ (s.run P w = .ok .skip w' ∧ v = .tup [])) ∧ Rel E' m1 w' ∧ Step E m w E' m1 w'

theorem comes_skip {s : Sem Unit} {r : Option M} {outs : List (V × M)} (hf : one1 r = some outs) (h : ∀ m', r = some m' → ∃ w', s.run P w = .ok () w' ∧ Rel E m' w' ∧ Step E m w E m' w') :
    Comes1 P E m w (do s; pure .skip) outs := by
  cases r with
  | none => cases hf
  | some m1 =>
    cases hf
    obtain ⟨w', h1, h2, h3⟩ := h m1 rfl
    exact ⟨_, m1, E, w', by simp, .inr ⟨by rw [Sem.run_bind, h1]; rfl, rfl⟩, h2, h3⟩
theorem comes_unit {s : Sem Value} {r : Option M} {outs : List (V × M)} (hf : one1 r = some outs) (h : ∀ m', r = some m' → ∃ w', s.run P w = .ok (.tuple #[]) w' ∧ Rel E m' w' ∧ Step E m w E m' w') :
    Comes1 P E m w (do pure (.value (← s))) outs := by
  cases r with
  | none => cases hf
  | some m1 =>
    cases hf
    obtain ⟨w', h1, h2, h3⟩ := h m1 rfl
    exact ⟨.tup [], m1, E, w', by simp, .inl ⟨.tuple #[], by rw [Sem.run_bind, h1]; rfl, rfl⟩, h2, h3⟩
theorem comes_val {s : Sem Value} {r : Option (V × M)} {outs : List (V × M)} (hf : one2 r = some outs) (h : ∀ v m', r = some (v, m') → ∃ u E' w', s.run P w = .ok u w' ∧ rep E' v = some u ∧ Rel E' m' w' ∧ Step E m w E' m' w') :
    Comes1 P E m w (do pure (.value (← s))) outs := by
  cases r with
  | none => cases hf
  | some p =>
    obtain ⟨v, m1⟩ := p
    cases hf
    obtain ⟨u, E', w', h1, h2, h3, h4⟩ := h v m1 rfl
    exact ⟨_, m1, E', w', by simp, .inl ⟨u, by rw [Sem.run_bind, h1]; rfl, h2⟩, h3, h4⟩

theorem eff_ok (h : Rel E m w) {ts : T V} {ρ : Operand → Value} (hev : ∀ x v, ev ts x = some v → rep E v = some (ρ x)) (o : Oper) {outs : List (V × M)} (hf : eff P ts m o.op = some outs) : Comes1 P E m w (execOp ρ o) outs := by
  obtain ⟨dst, op, ty, pos, after, guard⟩ := o
  dsimp only at hf
  cases op <;> simp only [eff_eq, eff0] at hf <;> try (cases hf; done)
  case store t a x =>
    split at hf
    · rename_i va vx hva hvx
      exact comes_skip hf (fun m' hm => eStore_ok h (hev _ _ hva) (hev _ _ hvx) hm)
    · cases hf
  case insert t x k v =>
    split at hf
    · rename_i va vb vc ha hb hc
      exact comes_skip hf (fun m' hm => eMapSet_ok h (hev _ _ ha) (hev _ _ hb) (hev _ _ hc) hm)
    · cases hf
  case mapUpdate t x k v =>
    split at hf
    · rename_i va vb vc ha hb hc
      exact comes_skip hf (fun m' hm => eMapSet_ok h (hev _ _ ha) (hev _ _ hb) (hev _ _ hc) hm)
    · cases hf
  case next it s =>
    cases s with
    | true => cases hf
    | false =>
      dsimp only at hf
      split at hf
      · rename_i v hv
        obtain ⟨v', m1, u, w', h1, h2, h3, h4, h5⟩ := eNext_ok (P := P) (ty := ty) h (hev _ _ hv) hf
        exact ⟨v', m1, E, w', h1, .inl ⟨u, by simp only [execOp, Sem.run_bind, h2, Result.andThen_ok, Sem.run_pure], h3⟩, h4, h5⟩
      · cases hf
  case call c =>
    obtain ⟨callee, args, ats⟩ := c
    have key : ∀ b, callee = .builtin b → execOp ρ { dst := dst, op := .call ⟨callee, args, ats⟩, type := ty, pos := pos, after := after, guard := guard } = builtin b ats ty (args.map fun | .const _ => true | _ => false) (args.map ρ) := by
      intro b hb; subst hb; rfl
    have ats0 : ∀ {t : TypeId} {r : List TypeId}, ats.toList = t :: r → ats[0]? = some t := fun h => by rw [← Array.getElem?_toList, h]; rfl
    have argv : ∀ {l : List V}, evs ts args.toList = some l → ∃ us, reps E l = some us ∧ args.map ρ = us.toArray := fun {l} hl => by
      refine ⟨_, evs_ok hev _ _ hl, ?_⟩
      apply Array.ext'; simp
    cases callee with
    | value f => cases hf
    | invoke r n => cases hf
    | builtin b =>
      rw [key b rfl]
      cases b <;> dsimp only at hf <;> try (cases hf; done)
      case append =>
        split at hf
        · rename_i s x hl
          obtain ⟨us, hr, ha⟩ := argv hl
          obtain ⟨u1, us1, rfl, hu1, hr1⟩ := reps_inv hr
          obtain ⟨u2, us2, rfl, hu2, hr2⟩ := reps_inv hr1
          simp only [reps, Option.some.injEq] at hr2; subst hr2
          rw [ha]
          exact comes_val hf (fun v m' hm => eAppend_ok h hu1 hu2 hm)
        · cases hf
      case copy =>
        split at hf
        · rename_i d s t r hl hats
          obtain ⟨us, hr, ha⟩ := argv hl
          obtain ⟨u1, us1, rfl, hu1, hr1⟩ := reps_inv hr
          obtain ⟨u2, us2, rfl, hu2, hr2⟩ := reps_inv hr1
          simp only [reps, Option.some.injEq] at hr2; subst hr2
          rw [ha]
          refine comes_val hf (fun v m' hm => ?_)
          obtain ⟨u, w', h1, h2, h3, h4⟩ := eCopy_ok (P := P) (ty := ty) h (ats0 hats) hu1 hu2 hm
          exact ⟨u, E, w', h1, h2, h3, h4⟩
        · cases hf
      case delete =>
        split at hf
        · rename_i d s t r hl hats
          obtain ⟨us, hr, ha⟩ := argv hl
          obtain ⟨u1, us1, rfl, hu1, hr1⟩ := reps_inv hr
          obtain ⟨u2, us2, rfl, hu2, hr2⟩ := reps_inv hr1
          simp only [reps, Option.some.injEq] at hr2; subst hr2
          rw [ha]
          exact comes_unit hf (fun m' hm => eDelete_ok h (ats0 hats) hu1 hu2 hm)
        · cases hf
      case clear =>
        split at hf
        · rename_i x t r hl hats
          obtain ⟨us, hr, ha⟩ := argv hl
          obtain ⟨u1, us1, rfl, hu1, hr1⟩ := reps_inv hr
          simp only [reps, Option.some.injEq] at hr1; subst hr1
          rw [ha]
          exact comes_unit hf (fun m' hm => eClear_ok h (ats0 hats) hu1 hm)
        · cases hf

end
end Go.Proofs.YtdjpjmojmppjkaaGreat.Eng

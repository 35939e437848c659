/- Calls. -/
import Derived.Test.YtdjpjmojmppjkaaGreatSound4
namespace Go.Proofs.YtdjpjmojmppjkaaGreat.Eng
open Go

section
variable {P : Program} {E E' : Env} {m m' m0 m1 : M} {w w' w1 : World} {s s' : St} {a : Act}

theorem unmark_ok {fn : FuncId} {tm : Array Value} : ∀ (d : List Nat) (ds : List Deferred) (m m' : M) (w : World), Rel E m w → drep E d ds → unmark d m = some m' →
    ∃ w', Rel E m' w' ∧ Step E m w E m' w' ∧ ∀ k cs, Steps P (lone { FR fn none ⟨tm, ds⟩ k with mode := .returning } cs w) (lone { FR fn none ⟨tm, []⟩ k with mode := .returning } cs w')
  | [], [], m, m', w, h, _, hu => by cases hu; exact ⟨w, h, Step.refl _ _ _, fun k cs => .refl _ _⟩
  | [], _ :: _, _, _, _, _, hd, _ => hd.elim
  | _ :: _, [], _, _, _, _, hd, _ => hd.elim
  | b :: d, dd :: ds, m, m', w, h, ⟨⟨x, hx, he⟩, hd⟩, hu => by
    subst he
    have hu' : (match look m b with
      | some ⟨.dfd false, _, _⟩ => (match m.so b (.dfd true) with | some m' => unmark d m' | none => none)
      | _ => none) = some m' := hu
    split at hu'
    case h_2 => cases hu'
    rename_i root al hl
    split at hu'
    case h_2 => cases hu'
    rename_i m1 hm1
    obtain ⟨ob, hob, hrp⟩ := obj_eq h hl hx
    have hob' : w.heap[x.r]? = some (.deferred (some [])) := by rw [hob]; exact congrArg some hrp
    obtain ⟨h1, h2⟩ := h.setObj (o := .deferred none) hm1 hl hx rfl rfl rfl
    obtain ⟨w', h3, h4, h5⟩ := unmark_ok d ds m1 m' _ h1 hd hu'
    refine ⟨w', h3, h2.trans h h4, fun k cs => Steps.trans (.one (st_unmark (a := ⟨tm, ds⟩) (run_takeDeferred hob'))) (h5 k cs)⟩

theorem resV_ok {ts : T V} {nt : Nat} {tm : Array Value} (h : Rel E m w) (ht : trep E ts nt tm) : ∀ (l : List ResultVar) (vs : List V), resV P ts m l = some vs →
    ∃ us, reps E vs = some us ∧ ((l.mapM fun
    | .tmp t => pure (tm.getD t undef)
    | .cell a t => do loadVar t (← asAddr (tm.getD a undef)) : Sem (List Value))).run P w = .ok us w
  | [], vs, hv => by cases hv; exact ⟨[], rfl, by simp⟩
  | .tmp t :: l, vs, hv => by
    have hv' : (match resV P ts m l with | some r => some ((ts.get DT t).getD (.tup []) :: r) | none => none) = some vs := hv
    split at hv'
    case h_2 => cases hv'
    rename_i r hr
    cases hv'
    obtain ⟨us, h1, h2⟩ := resV_ok h ht l r hr
    have h3 := ev_ok (df := []) ht (.tmp t) _ rfl
    refine ⟨_, reps_cons h3 h1, ?_⟩
    simp only [List.mapM_cons, Sem.run_bind, Sem.run_pure, Result.andThen_ok, h2]
    rfl
  | .cell a t :: l, vs, hv => by
    have hv' : (match fLoad P t m ((ts.get DT a).getD (.tup [])), resV P ts m l with
    | some (.v v), some r => some (v :: r)
    | _, _ => none) = some vs := hv
    split at hv'
    case h_2 => cases hv'
    rename_i v r hf hr
    cases hv'
    obtain ⟨us, h1, h2⟩ := resV_ok h ht l r hr
    have h3 := ev_ok (df := []) ht (.tmp a) _ rfl
    obtain ⟨v', u, hv2, hrun, hu⟩ := fLoad_ok (P := P) h h3 hf
    cases hv2
    refine ⟨_, reps_cons hu h1, ?_⟩
    have hrun' : (do loadVar t (← asAddr (tm.getD a undef)) : Sem Value).run P w = .ok u w := by
      cases hg : (ts.get DT a).getD (.tup []) <;> rw [hg] at hf <;> simp only [fLoad] at hf <;> try (cases hf; done)
      rename_i b o
      have h4 : rep E (.ptr b o) = some (tm.getD a undef) := by rw [← hg]; exact h3
      obtain ⟨x, hx, he⟩ := rep_ptr h4
      have he2 : (⟨tm, []⟩ : Act).eval (.tmp a) = tm.getD a undef := rfl
      rw [he2, he] at hrun
      rw [he]
      simpa [Instr.loadAt, Instr.sureAddr, asAddr] using hrun
    simp only [List.mapM_cons, Sem.run_bind] at hrun' ⊢
    rw [hrun']
    simp only [Result.andThen_ok, h2, Sem.run_pure]

theorem oneOf_ok {l : List V} {us : List Value} (h : reps E l = some us) : rep E (oneOf l) = some (if h : us.toArray.size = 1 then us.toArray[0] else .tuple us.toArray) := by
  match l, us, h with
  | [], us, h => simp only [reps, Option.some.injEq] at h; subst h; rfl
  | [v], us, h =>
    obtain ⟨u, us', rfl, hu, hus⟩ := reps_inv h
    simp only [reps, Option.some.injEq] at hus; subst hus
    simpa [oneOf] using hu
  | v :: v' :: l, us, h =>
    have hl := reps_length h
    have : ¬ us.length = 1 := by simp at hl; omega
    show rep E (.tup (v :: v' :: l)) = _
    simp [rep, h, this]

theorem results_ok {F : Func} {tm : Array Value} {us : List Value} (h5 : ((F.results.toList.mapM fun
    | .tmp t => pure (tm.getD t undef)
    | .cell a t => do loadVar t (← asAddr (tm.getD a undef)) : Sem (List Value))).run P w = .ok us w) : (results F tm).run P w = .ok (if h : us.toArray.size = 1 then us.toArray[0] else .tuple us.toArray) w := by
  unfold results
  rw [Sem.run_bind, Array.mapM_eq_mapM_toList, map_eq_pure_bind, Sem.run_bind]
  erw [h5]
  simp only [Result.andThen_ok, Sem.run_pure]

theorem leave_ok {f : FuncId} {F : Func} (hF : P.funcs[f]? = some F) {p : Ex × St} {q : V × M} (hl : leave P F.results.toList p = some q) (h : SRel E p.2 a w) :
    ∃ w' u, rep E q.1 = some u ∧ Rel E q.2 w' ∧ Step E p.2.m w E q.2 w' ∧ ∀ k cs, ∃ fr, Steps P (lone { FR f none a k with mode := .returning } cs w) (lone fr cs w') ∧ fr.fn = f ∧ fr.leaving P w' (.returned u) := by
  obtain ⟨ex, s⟩ := p
  unfold leave at hl
  have hl' : (match unmark s.d s.m with
    | some m => (match resV P s.ts m F.results.toList with | some l => some (oneOf l, m) | none => none)
    | none => none) = some q := by
    cases ex with
    | exit id => cases hl
    | normal => exact hl
    | ret => exact hl
  split at hl'
  case h_2 => cases hl'
  rename_i m1 hm1
  split at hl'
  case h_2 => cases hl'
  rename_i l hr
  cases hl'
  obtain ⟨w1, h1, h2, h3⟩ := unmark_ok (P := P) (fn := f) (tm := a.tmps) s.d a.defers s.m m1 w h.m h.d hm1
  obtain ⟨us, h4, h5⟩ := resV_ok (P := P) h1 h.t _ _ hr
  refine ⟨w1, _, oneOf_ok h4, h1, h2, fun k cs => ⟨_, h3 k cs, rfl, rfl, rfl, rfl, F, hF, ?_⟩⟩
  exact results_ok h5
end
end Go.Proofs.YtdjpjmojmppjkaaGreat.Eng

/- What an operation looks at. -/
import Derived.Test.YtdjpjmojmppjkaaGreatDrawn1
namespace Go.Proofs.YtdjpjmojmppjkaaGreat.Eng
open Go

section
variable {P : Program} {ts ts' : T V} {m m' : M}

theorem evs_congr : ∀ {l : List Operand}, (∀ x ∈ l, ev ts x = ev ts' x) → evs ts l = evs ts' l
  | [], _ => rfl
  | x :: l, h => by
    have h1 := h x (by simp)
    have h2 := evs_congr (l := l) (fun y hy => h y (by simp [hy]))
    simp only [evs_cons, h1, h2]
theorem evParts_congr : ∀ {l : List (Nat × Operand)}, (∀ x ∈ l.map (·.2), ev ts x = ev ts' x) → evParts ts l = evParts ts' l
  | [], _ => rfl
  | (i, x) :: l, h => by
    have h1 := h x (by simp)
    have h2 := evParts_congr (l := l) (fun y hy => h y (by simp at hy ⊢; exact .inr hy))
    simp only [evParts_cons, h1, h2]
theorem evo_congr : ∀ {o : Option Operand}, (∀ x ∈ o, ev ts x = ev ts' x) → evo ts o = evo ts' o
  | none, _ => rfl
  | some x, h => by simp only [evo, h x rfl]

theorem flt_congr {op : Op} (h : ∀ x ∈ op.operands.toList, ev ts x = ev ts' x) : flt P ts m op = flt P ts' m op := by
  cases op
  case move x => simp only [flt_eq, flt0, h x (by simp [Op.operands])]
  case assign x => simp only [flt_eq, flt0, h x (by simp [Op.operands])]
  case pick c a b => simp only [flt_eq, flt0, h c (by simp [Op.operands]), h a (by simp [Op.operands]), h b (by simp [Op.operands])]
  case alloc t => rfl
  case box t x => simp only [flt_eq, flt0, h x (by simp [Op.operands])]
  case build t parts => simp only [flt_eq, flt0, evParts_congr (l := parts.toList) (fun x hx => h x (by simpa [Op.operands] using hx))]
  case buildSlice t n parts => simp only [flt_eq, flt0, evParts_congr (l := parts.toList) (fun x hx => h x (by simpa [Op.operands] using hx))]
  case load t a => simp only [flt_eq, flt0, h a (by simp [Op.operands])]
  case nilCheck x => simp only [flt_eq, flt0, h x (by simp [Op.operands])]
  case binOp op t x y z => simp only [flt_eq, flt0, h x (by simp [Op.operands]), h y (by simp [Op.operands])]
  case unOp op t x => simp only [flt_eq, flt0, h x (by simp [Op.operands])]
  case convert s d x => simp only [flt_eq, flt0, h x (by simp [Op.operands])]
  case makeInterface t x => simp only [flt_eq, flt0, h x (by simp [Op.operands])]
  case makeFunc f first cap => simp only [flt_eq, flt0, evs_congr (l := first.toList) (fun x hx => h x (by simp [Op.operands] at hx ⊢; exact .inl hx)), evs_congr (l := cap.toList) (fun x hx => h x (by simp [Op.operands] at hx ⊢; exact .inr hx))]
  case makeMap t r => cases r <;> rfl
  case makeSlice t l c => simp only [flt_eq, flt0, h l (by simp [Op.operands]), h c (by simp [Op.operands])]
  case slice t x lo hi mx =>
    simp only [flt_eq, flt0, h x (by simp [Op.operands]), evo_congr (o := lo) (fun y hy => h y (by simp [Op.operands]; simp at hy; simp [hy])), evo_congr (o := hi) (fun y hy => h y (by simp [Op.operands]; simp at hy; simp [hy])), evo_congr (o := mx) (fun y hy => h y (by simp [Op.operands]; simp at hy; simp [hy]))]
  case fieldAddr s x f => simp only [flt_eq, flt0, h x (by simp [Op.operands])]
  case field s x f => simp only [flt_eq, flt0, h x (by simp [Op.operands])]
  case indexAddr t x i => simp only [flt_eq, flt0, h x (by simp [Op.operands]), h i (by simp [Op.operands])]
  case index t x i => simp only [flt_eq, flt0, h x (by simp [Op.operands]), h i (by simp [Op.operands])]
  case lookup t x k ok => simp only [flt_eq, flt0, h x (by simp [Op.operands]), h k (by simp [Op.operands])]
  case range t x => simp only [flt_eq, flt0, h x (by simp [Op.operands])]
  case entry it => simp only [flt_eq, flt0, h it (by simp [Op.operands])]
  case extract x i => simp only [flt_eq, flt0, h x (by simp [Op.operands])]
  case typeAssert x xt t ok => cases ok <;> simp only [flt_eq, flt0, h x (by simp [Op.operands])]
  case call c =>
    obtain ⟨cal, args, ats⟩ := c
    cases cal
    case builtin b => simp only [flt_eq, flt0, evs_congr (l := args.toList) (fun x hx => h x (by simpa [Op.operands, Call.operands] using hx))]
    all_goals rfl
  all_goals rfl

theorem eff_congr {op : Op} (h : ∀ x ∈ op.operands.toList, ev ts x = ev ts' x) : eff P ts m op = eff P ts' m op := by
  cases op
  case store t a x => simp only [eff_eq, eff0, h a (by simp [Op.operands]), h x (by simp [Op.operands])]
  case mapUpdate t x k v => simp only [eff_eq, eff0, h x (by simp [Op.operands]), h k (by simp [Op.operands]), h v (by simp [Op.operands])]
  case insert t x k v => simp only [eff_eq, eff0, h x (by simp [Op.operands]), h k (by simp [Op.operands]), h v (by simp [Op.operands])]
  case next it b => cases b <;> simp only [eff_eq, eff0, h it (by simp [Op.operands])]
  case call c =>
    obtain ⟨cal, args, ats⟩ := c
    cases cal
    case builtin b => cases b <;> simp only [eff_eq, eff0, evs_congr (l := args.toList) (fun x hx => h x (by simpa [Op.operands, Call.operands] using hx))]
    all_goals rfl
  all_goals rfl

theorem effC_congr {ca : CallT} {ih : Code → St → R} {op : Op} (h : ∀ x ∈ op.operands.toList, ev ts x = ev ts' x) : effC P ca ih ts m op = effC P ca ih ts' m op := by
  cases op
  case call c =>
    obtain ⟨cal, args, ats⟩ := c
    cases cal
    case value f => simp only [effC_eq, effC0, h f (by simp [Op.operands, Call.operands]), evs_congr (l := args.toList) (fun x hx => h x (by simp [Op.operands, Call.operands]; simp at hx; simp [hx]))]
    case invoke => rfl
    all_goals exact eff_congr (P := P) (m := m) h
  all_goals exact eff_congr (P := P) (m := m) h

theorem flt_blind {op : Op} (h : looks op = false) : flt P ts m op = flt P ts m' op := by
  cases op <;> first | rfl | (simp only [looks, Bool.true_eq_false] at h; done) | (rename_i r; cases r <;> rfl) | (rename_i r; cases r <;> rfl)
theorem convert_blind {s d : TypeId} {x : V} {ao : AO} {k : Nat → V} (h : fConvert P s d m x = some (.a ao k)) : fConvert P s d m' x = some (.a ao k) := by
  unfold fConvert at h ⊢
  split at h
  case h_2 => cases h
  split at h
  · split at h <;> cases h
  · split at h <;> cases h
  · split at h
    · split at h <;> cases h
    · cases h
  · split at h
    · split at h <;> cases h
    · cases h
  · split at h
    · split at h
      · split at h
        · split at h <;> cases h
        · cases h
      · cases h
    · cases h
  · exact h
  · cases h
end

theorem tmpsOf_mem : ∀ {l : List Operand} {t : Tmp}, .tmp t ∈ l → t ∈ tmpsOf l
  | [], _, h => by simp at h
  | .tmp u :: l, t, h => by
    rcases List.mem_cons.1 h with h | h
    · cases h; simp [tmpsOf]
    · simp [tmpsOf, tmpsOf_mem h]
  | .const _ :: l, t, h => by
    rcases List.mem_cons.1 h with h | h
    · cases h
    · simp [tmpsOf, tmpsOf_mem h]
  | .global _ :: l, t, h => by
    rcases List.mem_cons.1 h with h | h
    · cases h
    · simp [tmpsOf, tmpsOf_mem h]
  | .func _ :: l, t, h => by
    rcases List.mem_cons.1 h with h | h
    · cases h
    · simp [tmpsOf, tmpsOf_mem h]
theorem ev_agree {L : List Oper} {o : Oper} {ts ts' : T V} (h : ∀ t ∈ seen L o, ts.get DT t = ts'.get DT t) : ∀ x ∈ o.op.operands.toList, ev ts x = ev ts' x := by
  intro x hx
  cases x with
  | tmp t =>
    have := h t (by unfold seen; exact List.mem_append_left _ (tmpsOf_mem hx))
    simp only [ev, this]
  | _ => rfl
theorem wants_agree {L : List Oper} {o : Oper} {ts ts' : T V} (h : ∀ t ∈ seen L o, ts.get DT t = ts'.get DT t) : wants L ts o.guard = wants L ts' o.guard := by
  unfold wants
  cases hg : o.guard with
  | none => rfl
  | some p =>
    obtain ⟨j, want⟩ := p
    dsimp only
    cases hn : nth L j with
    | none => rfl
    | some q =>
      dsimp only
      cases hd : q.dst with
      | none => rfl
      | some t =>
        have := h t (by unfold seen; rw [hg]; dsimp only; rw [hn]; dsimp only; rw [hd]; simp)
        simp only [this]
end Go.Proofs.YtdjpjmojmppjkaaGreat.Eng

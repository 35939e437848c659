/- The engine's steps are the machine's. -/
import Derived.Test.YtdjpjmojmppjkaaGreatMach
namespace Go.Proofs.YtdjpjmojmppjkaaGreat.Eng
open Go

def drep (E : Env) : List Nat → List Deferred → Prop
  | [], [] => True
  | b :: l, dd :: r => (∃ x, E b = some x ∧ dd = { target := .collected x.r, args := #[] }) ∧ drep E l r
  | _, _ => False
theorem drep_mono {E F : Env} (h : E.le F) : ∀ {l : List Nat} {r : List Deferred}, drep E l r → drep F l r
  | [], [], _ => trivial
  | _ :: _, _ :: _, ⟨⟨x, hx, hd⟩, k⟩ => ⟨⟨x, h _ _ hx, hd⟩, drep_mono h k⟩
  | [], _ :: _, k => k.elim
  | _ :: _, [], k => k.elim

structure SRel (E : Env) (s : St) (a : Act) (w : World) : Prop where
  m : Rel E s.m w
  t : trep E s.ts s.nt a.tmps
  d : drep E s.d a.defers

section
variable {P : Program} {E E' : Env} {m m' : M} {w w' : World} {s s' : St} {a : Act}

theorem ev_ok {ts : T V} {nt : Nat} {tm : Array Value} {df : List Deferred} (h : trep E ts nt tm) : ∀ x v, ev ts x = some v → rep E v = some ((⟨tm, df⟩ : Act).eval x) := by
  intro x v hv
  cases x with
  | tmp t =>
    simp only [ev, Option.some.injEq] at hv
    subst hv
    show _ = some (tm.getD t undef)
    rcases Nat.lt_or_ge t nt with hlt | hge
    · obtain ⟨u, hu, hr⟩ := h.2.1 t hlt
      rw [hr, Array.getD_eq_getD_getElem?, hu]; rfl
    · rw [h.2.2.2 t hge, Array.getD_eq_getD_getElem?, Array.getElem?_eq_none (by rw [h.1]; exact hge)]
      rfl
  | const c => exact rep_ofVal 8 c v hv
  | global g => cases hv
  | func f => cases hv; rfl
theorem ev_ok' {ts : T V} {nt : Nat} (h : trep E ts nt a.tmps) : ∀ x v, ev ts x = some v → rep E v = some (a.eval x) := ev_ok (df := a.defers) h

theorem trep_set {ts : T V} {nt : Nat} {tm : Array Value} {d : Nat} {v : V} {u : Value} (h : trep E ts nt tm) (hd : d < nt) (hv : rep E v = some u) : trep E (ts.set v DT d) nt (tm.setIfInBounds d u) := by
  have hd9 : d < 2 ^ 9 := by have := h.2.2.1; show d < 512; omega
  refine ⟨by rw [Array.size_setIfInBounds]; exact h.1, fun i hi => ?_, h.2.2.1, fun i hi => ?_⟩
  · rw [T.get_set _ _ _ _ _ hd9]
    by_cases e : d = i
    · subst e
      rw [if_pos rfl]
      exact ⟨u, by rw [Array.getElem?_setIfInBounds_self_of_lt (by rw [h.1]; exact hd)], hv⟩
    · rw [if_neg e, Array.getElem?_setIfInBounds_ne e]
      exact h.2.1 i hi
  · rw [T.get_set _ _ _ _ _ hd9, if_neg (by omega)]
    exact h.2.2.2 i hi

theorem putV_ok {ts' : T V} {dst : Option Tmp} {v : V} {u : Value} (h : trep E s.ts s.nt a.tmps) (hp : putV s dst v = some ts') (hv : rep E v = some u) : trep E ts' s.nt (a.put dst u).tmps := by
  unfold putV at hp
  cases dst with
  | none => cases hp; exact h
  | some d =>
    obtain ⟨h1, h2⟩ := cond_some hp
    cases h2
    exact trep_set h (by simpa using h1) hv

theorem put_ok {dst : Option Tmp} {v : V} {u : Value} (h : SRel E s a w) (hp : s.put dst v m' = some s') (hv : rep E' v = some u) (hr : Rel E' m' w') (hle : E.le E') :
    SRel E' s' (a.put dst u) w' ∧ s'.m = m' ∧ s'.fn = s.fn ∧ s'.rnd = s.rnd := by
  unfold St.put at hp
  split at hp
  · rename_i ts hts
    cases hp
    refine ⟨⟨hr, putV_ok (s := s) (trep_mono hle h.t) hts hv, ?_⟩, rfl, rfl, rfl⟩
    have : (a.put dst u).defers = a.defers := by cases dst <;> rfl
    rw [this]; exact drep_mono hle h.d
  · cases hp

/-- An operation of a region is done. -/
def OpGoes (P : Program) (fn : FuncId) (rnd : Option Nat) (ops : Array Oper) (i : Nat) (o : Oper) (a : Act) (w : World) (u : Value) (w' : World) : Prop :=
  ∀ rest k cs, Steps P (lone (FR fn rnd a (.inRegion ops (i :: rest) :: k)) cs w) (lone (FR fn rnd (a.put o.dst u) (.inRegion ops rest :: k)) cs w')

/-- A call ends with its value. -/
def RLeave (P : Program) (f : FuncId) (args : Array Value) (w : World) (u : Value) (w' : World) : Prop :=
  ∀ cs, ∃ fr, Steps P (lone (Frame.enter P f args .normal) cs w) (lone fr cs w') ∧ fr.fn = f ∧ fr.leaving P w' (.returned u)
theorem RLeave.ret {f : FuncId} {args : Array Value} {u : Value} (h : RLeave P f args w u w') (c : Frame) (cs : List Frame) : Steps P (lone (Frame.enter P f args .normal) (c :: cs) w) (lone (c.finish u) cs w') := by
  obtain ⟨fr, h1, _, h2⟩ := h (c :: cs)
  exact h1.trans (.one (step_leave_returned h2))

/-- What is kept by all that is done. -/
structure Keeps (I : Env → M → World → Prop) : Prop where
  step : ∀ E m w E' m' w', Rel E m w → Step E m w E' m' w' → I E m w → I E' m' w'
  sub : ∀ E m m' w, (∀ k e, m'.h.get DH k = some e → m.h.get DH k = some e) → I E m w → I E m' w
def CallOk (P : Program) (I : Env → M → World → Prop) (ca : CallT) : Prop :=
  ∀ f args m outs E w us, ca f args m = some outs → Rel E m w → reps E args = some us → I E m w →
    ∃ v m1 E' w' u, (v, m1) ∈ outs ∧ RLeave P f us.toArray w u w' ∧ rep E' v = some u ∧ Rel E' m1 w' ∧ Step E m w E' m1 w' ∧ ∀ xs : Array Value, xs = us.toArray → (callFunc f xs).run P w = .ok (.enter f xs) w

def Arr (P : Program) (M0 : Machine) (fn : FuncId) (rnd : Option Nat) (k : List Item) (cs : List Frame) : Ex → Act → World → Prop
  | .normal, a, w => Steps P M0 (lone (FR fn rnd a k) cs w)
  | .exit id, a, w => ∃ k0, exitTo id k0 = exitTo id k ∧ Steps P M0 (lone (FR fn rnd a (.code (.exit id) :: k0)) cs w)
  | .ret, a, w => ∃ k0, Steps P M0 (lone (FR fn rnd a (.code .ret :: k0)) cs w)
theorem Arr.of_steps {M0 M1 : Machine} {fn : FuncId} {rnd : Option Nat} {k : List Item} {cs : List Frame} {ex : Ex} (h : Steps P M0 M1) (k1 : Arr P M1 fn rnd k cs ex a w) : Arr P M0 fn rnd k cs ex a w := by
  cases ex with
  | normal => exact h.trans k1
  | exit id => obtain ⟨k0, h1, h2⟩ := k1; exact ⟨k0, h1, h.trans h2⟩
  | ret => obtain ⟨k0, h2⟩ := k1; exact ⟨k0, h.trans h2⟩

/-- What comes of code is one of what the engine tells. -/
def Goes (P : Program) (E : Env) (s : St) (a : Act) (w : World) (rr : Option Nat) (outs : List (Ex × St)) (c : Code) : Prop :=
  ∃ ex s' E' a' w', (ex, s') ∈ outs ∧ SRel E' s' a' w' ∧ Step E s.m w E' s'.m w' ∧ s'.fn = s.fn ∧ s'.rnd = s.rnd ∧
    ∀ k cs, Arr P (lone (FR s.fn rr a (.code c :: k)) cs w) s.fn rr k cs ex a' w'
def ExOk (P : Program) (I : Env → M → World → Prop) (ih : Code → St → R) : Prop := ∀ c s outs E a w rr, ih c s = some outs → SRel E s a w → I E s.m w → (rr = none ↔ s.rnd = none) → Goes P E s a w rr outs c

theorem wants_ok {ops : Array Oper} {ts : T V} {nt : Nat} {tm : Array Value} {o : Oper} (h : trep E ts nt tm) : Region.wanted o (yielded ops tm) = wants ops.toList ts o.guard := by
  unfold Region.wanted wants
  cases hg : o.guard with
  | none => rfl
  | some p =>
    obtain ⟨j, want⟩ := p
    dsimp only
    rw [nth_eq, Array.getElem?_toList]
    unfold yielded
    cases ho : ops[j]? with
    | none => cases want <;> rfl
    | some oj =>
      simp only [Option.bind_some]
      cases hd : oj.dst with
      | none => cases want <;> rfl
      | some t =>
        simp only [Option.bind_some]
        rcases Nat.lt_or_ge t nt with hlt | hge
        · obtain ⟨u, hu, hr⟩ := h.2.1 t hlt
          rw [hu]
          cases hv : ts.get DT t with
          | none =>
            rw [hv] at hr
            simp only [Option.getD_none, rep, reps, Option.map_some, Option.some.injEq] at hr
            subst hr; cases want <;> rfl
          | some v =>
            rw [hv] at hr
            simp only [Option.getD_some] at hr
            cases v
            case bool b => cases hr; cases b <;> cases want <;> rfl
            case int k n => cases hr; cases want <;> rfl
            case str s => cases hr; cases want <;> rfl
            case nilp => cases hr; cases want <;> rfl
            case ptr b o => obtain ⟨_, _, rfl⟩ := rep_ptr hr; cases want <;> rfl
            case nils => cases hr; cases want <;> rfl
            case sl b o l c z => obtain ⟨_, _, rfl⟩ := rep_sl_shape hr; cases want <;> rfl
            case sle b o l z => obtain ⟨_, _, rfl⟩ := rep_sle_shape hr; cases want <;> rfl
            case nilm => cases hr; cases want <;> rfl
            case map b => simp only [rep, Option.map_eq_some_iff] at hr; obtain ⟨_, _, rfl⟩ := hr; cases want <;> rfl
            case fn f xs ys => simp only [rep, Option.bind_eq_some_iff, Option.map_eq_some_iff] at hr; obtain ⟨_, _, _, _, rfl⟩ := hr; cases want <;> rfl
            case yld l => simp only [rep, Option.map_eq_some_iff] at hr; obtain ⟨_, _, rfl⟩ := hr; cases want <;> rfl
            case nilf => cases hr; cases want <;> rfl
            case iface t v => simp only [rep, Option.map_eq_some_iff] at hr; obtain ⟨_, _, rfl⟩ := hr; cases want <;> rfl
            case nili => cases hr; cases want <;> rfl
            case agg l => simp only [rep, Option.map_eq_some_iff] at hr; obtain ⟨_, _, rfl⟩ := hr; cases want <;> rfl
            case tup l => simp only [rep, Option.map_eq_some_iff] at hr; obtain ⟨_, _, rfl⟩ := hr; cases want <;> rfl
            case sym k n => cases hr; cases want <;> rfl
            case osl a n c => cases hr; cases want <;> rfl
            case tok b c => simp only [rep, Option.map_eq_some_iff] at hr; obtain ⟨_, _, rfl⟩ := hr; cases want <;> rfl
            case symi k q b => obtain ⟨_, rfl⟩ := rep_symi hr; cases want <;> rfl
            case osli b => obtain ⟨_, _, _, rfl, _⟩ := rep_osli hr; cases want <;> rfl
        · rw [h.2.2.2 t hge, Array.getElem?_eq_none (by rw [h.1]; exact hge)]
          cases want <;> rfl

theorem flt_notdefer {ts : T V} {op : Op} {out : FO} (h : flt P ts m op = some out) : ∀ c, op ≠ .defer c := by
  intro c hc; subst hc; cases h
theorem tells_goes {fn : FuncId} {rnd : Option Nat} {ops : Array Oper} {i : Nat} {o : Oper} {u : Value} (ho : ops[i]? = some o) (hw : Region.wanted o (yielded ops a.tmps) = true) (hd : ∀ c, o.op ≠ .defer c)
    (hr : (execOp a.eval o).run P w = .ok (.value u) w') : OpGoes P fn rnd ops i o a w u w' := fun _ _ _ => .one (st_op_value ho hw hd hr)

end
end Go.Proofs.YtdjpjmojmppjkaaGreat.Eng

/- Values as the engine has them: blocks by numbers of its own; and what they stand for. -/
import Derived.Test.YtdjpjmojmppjkaaGreatTrie
namespace Go.Proofs.YtdjpjmojmppjkaaGreat.Eng
open Go

inductive V where
  | bool (b : Bool)
  | int (k : IntKind) (n : Int)
  | str (s : List UInt8)
  | nilp
  | ptr (b o : Nat)
  | nils
  | sl (b o len : Nat) (cap : Option Nat) (sz : Nat)
  | sle (b o l sz : Nat)
  | nilm
  | map (b : Nat)
  | fn (f : Fn) (first captured : List V)
  | yld (l : Nat)
  | nilf
  | iface (t : TypeId) (v : V)
  | nili
  | agg (cs : List V)
  | tup (vs : List V)
  | sym (k : IntKind) (n : Int)
  | osl (a : Option Addr) (n c : Nat)
  | tok (b c : Nat)
  | symi (k : IntKind) (q : Bool) (b : Nat)
  | osli (b : Nat)

/-- The real block of a number: which it is, how many cells it has, and where the engine's cell 0 lies. -/
structure EB where
  r : Nat
  m : Nat
  s : Nat
  x : Value := .nilIface

/-- A value that stands behind a number: a number, a slice's length, a slice. -/
def EB.num (e : EB) (k : IntKind) (q : Bool) : Option Value :=
  match q, e.x with
  | false, .int k' n => if k' = k then some (.int k n) else none
  | true, .slice _ n _ => if k = .i64 then some (.int k n) else none
  | _, _ => none
def EB.sli (e : EB) : Option Value :=
  match e.x with
  | .slice a n c => some (.slice a n c)
  | _ => none
theorem EB.num_int {e : EB} {k : IntKind} {q : Bool} {u : Value} (h : e.num k q = some u) : ∃ n, u = .int k n := by
  unfold EB.num at h
  split at h
  · split at h
    · cases h; exact ⟨_, rfl⟩
    · cases h
  · split at h
    · cases h; exact ⟨_, rfl⟩
    · cases h
  · cases h
theorem EB.sli_slice {e : EB} {u : Value} (h : e.sli = some u) : ∃ a n c, u = .slice a n c ∧ e.num .i64 true = some (.int .i64 n) := by
  unfold EB.sli at h
  split at h
  · rename_i a n c hx
    cases h
    exact ⟨a, n, c, rfl, by unfold EB.num; rw [hx]; rfl⟩
  · cases h

abbrev Env := Nat → Option EB

mutual
def rep (E : Env) : V → Option Value
  | .bool b => some (.bool b)
  | .int k n => some (.int k n)
  | .str s => some (.string ⟨s.toArray⟩)
  | .nilp => some (.pointer none)
  | .ptr b o => (E b).map fun e => .pointer (some ⟨e.r, e.s + o, none⟩)
  | .nils => some (.slice none 0 0)
  | .sl b o len cap sz => (E b).bind fun e => match cap with
    | some c => some (.slice (some ⟨e.r, e.s + o, none⟩) len c)
    | none => if e.s + o + len * sz ≤ e.m then some (.slice (some ⟨e.r, e.s + o, none⟩) len ((e.m - (e.s + o)) / sz)) else none
  | .sle b o l sz => (E b).bind fun e => if e.s + o + l * sz ≤ e.m then some (if (e.m - (e.s + o)) / sz = l then .slice (some ⟨e.r, e.s + o, none⟩) 0 0 else .slice (some ⟨e.r, e.s + o + l * sz, none⟩) 0 ((e.m - (e.s + o)) / sz - l)) else none
  | .nilm => some (.map none)
  | .map b => (E b).map fun e => .map (some e.r)
  | .fn f xs ys => (reps E xs).bind fun a => (reps E ys).map fun c => .func f a.toArray c.toArray
  | .yld l => (E l).map fun e => .func (.yield e.r) #[] #[]
  | .nilf => some .nilFunc
  | .iface t v => (rep E v).map (.iface t)
  | .nili => some .nilIface
  | .agg cs => (reps E cs).map fun a => .agg a.toArray
  | .tup vs => (reps E vs).map fun a => .tuple a.toArray
  | .sym k n => some (.int k n)
  | .osl a n c => some (.slice a n c)
  | .tok b c => (E b).map fun e => .slice (some ⟨e.r, e.s, none⟩) e.m c
  | .symi k q b => (E b).bind fun e => e.num k q
  | .osli b => (E b).bind fun e => e.sli
  termination_by structural v => v
def reps (E : Env) : List V → Option (List Value)
  | [] => some []
  | v :: l => (rep E v).bind fun a => (reps E l).map fun b => a :: b
  termination_by structural l => l
end

/-- More blocks are known. -/
def Env.le (E F : Env) : Prop := ∀ b e, E b = some e → F b = some e
theorem Env.le_refl (E : Env) : E.le E := fun _ _ h => h
theorem Env.le_trans {E F G : Env} (h : E.le F) (k : F.le G) : E.le G := fun b e hb => k b e (h b e hb)

mutual
theorem rep_mono {E F : Env} (h : E.le F) : ∀ (v : V) (u : Value), rep E v = some u → rep F v = some u
  | .bool _, _, e => e
  | .int _ _, _, e => e
  | .str _, _, e => e
  | .nilp, _, e => e
  | .ptr b o, u, e => by
    simp only [rep, Option.map_eq_some_iff] at e ⊢
    obtain ⟨x, hx, hu⟩ := e; exact ⟨x, h _ _ hx, hu⟩
  | .nils, _, e => e
  | .sl b o len cap sz, u, e => by
    simp only [rep, Option.bind_eq_some_iff] at e ⊢
    obtain ⟨x, hx, hu⟩ := e; exact ⟨x, h _ _ hx, hu⟩
  | .sle b o l sz, u, e => by
    simp only [rep, Option.bind_eq_some_iff] at e ⊢
    obtain ⟨x, hx, hu⟩ := e; exact ⟨x, h _ _ hx, hu⟩
  | .nilm, _, e => e
  | .map b, u, e => by
    simp only [rep, Option.map_eq_some_iff] at e ⊢
    obtain ⟨x, hx, hu⟩ := e; exact ⟨x, h _ _ hx, hu⟩
  | .fn f xs ys, u, e => by
    simp only [rep, Option.bind_eq_some_iff, Option.map_eq_some_iff] at e ⊢
    obtain ⟨a, ha, c, hc, hu⟩ := e
    exact ⟨a, reps_mono h xs a ha, c, reps_mono h ys c hc, hu⟩
  | .yld l, u, e => by
    simp only [rep, Option.map_eq_some_iff] at e ⊢
    obtain ⟨x, hx, hu⟩ := e; exact ⟨x, h _ _ hx, hu⟩
  | .nilf, _, e => e
  | .iface t v, u, e => by
    simp only [rep, Option.map_eq_some_iff] at e ⊢
    obtain ⟨x, hx, hu⟩ := e; exact ⟨x, rep_mono h v x hx, hu⟩
  | .nili, _, e => e
  | .agg cs, u, e => by
    simp only [rep, Option.map_eq_some_iff] at e ⊢
    obtain ⟨x, hx, hu⟩ := e; exact ⟨x, reps_mono h cs x hx, hu⟩
  | .tup vs, u, e => by
    simp only [rep, Option.map_eq_some_iff] at e ⊢
    obtain ⟨x, hx, hu⟩ := e; exact ⟨x, reps_mono h vs x hx, hu⟩
  | .sym _ _, _, e => e
  | .osl _ _ _, _, e => e
  | .tok b c, u, e => by
    simp only [rep, Option.map_eq_some_iff] at e ⊢
    obtain ⟨x, hx, hu⟩ := e; exact ⟨x, h _ _ hx, hu⟩
  | .symi k q b, u, e => by
    simp only [rep, Option.bind_eq_some_iff] at e ⊢
    obtain ⟨x, hx, hu⟩ := e; exact ⟨x, h _ _ hx, hu⟩
  | .osli b, u, e => by
    simp only [rep, Option.bind_eq_some_iff] at e ⊢
    obtain ⟨x, hx, hu⟩ := e; exact ⟨x, h _ _ hx, hu⟩
theorem reps_mono {E F : Env} (h : E.le F) : ∀ (l : List V) (u : List Value), reps E l = some u → reps F l = some u
  | [], _, e => e
  | v :: l, u, e => by
    simp only [reps, Option.bind_eq_some_iff, Option.map_eq_some_iff] at e ⊢
    obtain ⟨a, ha, c, hc, hu⟩ := e
    exact ⟨a, rep_mono h v a ha, c, reps_mono h l c hc, hu⟩
end

theorem rep_symi {E : Env} {k : IntKind} {q : Bool} {b : Nat} {u : Value} (h : rep E (.symi k q b) = some u) : ∃ n, u = .int k n := by
  simp only [rep, Option.bind_eq_some_iff] at h
  obtain ⟨e, _, h⟩ := h
  exact EB.num_int h
theorem rep_osli {E : Env} {b : Nat} {u : Value} (h : rep E (.osli b) = some u) : ∃ a n c, u = .slice a n c ∧ rep E (.symi .i64 true b) = some (.int .i64 n) := by
  simp only [rep, Option.bind_eq_some_iff] at h ⊢
  obtain ⟨e, he, h⟩ := h
  obtain ⟨a, n, c, h1, h2⟩ := EB.sli_slice h
  exact ⟨a, n, c, h1, e, he, h2⟩

theorem reps_length {E : Env} : ∀ {l : List V} {u : List Value}, reps E l = some u → u.length = l.length
  | [], u, h => by simp only [reps, Option.some.injEq] at h; subst h; rfl
  | v :: l, u, h => by
    simp only [reps, Option.bind_eq_some_iff, Option.map_eq_some_iff] at h
    obtain ⟨a, _, b, hb, rfl⟩ := h
    simp [reps_length hb]
theorem reps_get {E : Env} : ∀ {l : List V} {u : List Value}, reps E l = some u → ∀ {i : Nat} {v : V}, l[i]? = some v → ∃ x, u[i]? = some x ∧ rep E v = some x
  | [], u, h, i, v, hi => by simp at hi
  | w :: l, u, h, i, v, hi => by
    simp only [reps, Option.bind_eq_some_iff, Option.map_eq_some_iff] at h
    obtain ⟨a, ha, b, hb, rfl⟩ := h
    cases i with
    | zero => simp at hi; subst hi; exact ⟨a, rfl, ha⟩
    | succ i => simp at hi; simpa using reps_get hb hi
theorem reps_append {E : Env} : ∀ {l l' : List V} {u u' : List Value}, reps E l = some u → reps E l' = some u' → reps E (l ++ l') = some (u ++ u')
  | [], l', u, u', h, h' => by simp only [reps, Option.some.injEq] at h; subst h; simpa using h'
  | v :: l, l', u, u', h, h' => by
    simp only [reps, Option.bind_eq_some_iff, Option.map_eq_some_iff] at h
    obtain ⟨a, ha, b, hb, rfl⟩ := h
    simp only [List.cons_append, reps, ha, Option.bind_some, reps_append hb h', Option.map_some]
theorem reps_take {E : Env} : ∀ {l : List V} {u : List Value} (n : Nat), reps E l = some u → reps E (l.take n) = some (u.take n)
  | [], u, n, h => by simp only [reps, Option.some.injEq] at h; subst h; simp [reps]
  | v :: l, u, 0, h => by simp [reps]
  | v :: l, u, n + 1, h => by
    simp only [reps, Option.bind_eq_some_iff, Option.map_eq_some_iff] at h
    obtain ⟨a, ha, b, hb, rfl⟩ := h
    simp only [List.take_succ_cons, reps, ha, Option.bind_some, reps_take n hb, Option.map_some]
theorem reps_drop {E : Env} : ∀ {l : List V} {u : List Value} (n : Nat), reps E l = some u → reps E (l.drop n) = some (u.drop n)
  | [], u, n, h => by simp only [reps, Option.some.injEq] at h; subst h; simp [reps]
  | v :: l, u, 0, h => by simpa using h
  | v :: l, u, n + 1, h => by
    simp only [reps, Option.bind_eq_some_iff, Option.map_eq_some_iff] at h
    obtain ⟨a, ha, b, hb, rfl⟩ := h
    simpa using reps_drop n hb
theorem reps_set {E : Env} : ∀ {l : List V} {u : List Value} (n : Nat) {v : V} {x : Value}, reps E l = some u → rep E v = some x → reps E (l.set n v) = some (u.set n x)
  | [], u, n, v, x, h, hv => by simp only [reps, Option.some.injEq] at h; subst h; simp [reps]
  | w :: l, u, 0, v, x, h, hv => by
    simp only [reps, Option.bind_eq_some_iff, Option.map_eq_some_iff] at h
    obtain ⟨a, ha, b, hb, rfl⟩ := h
    simp only [List.set_cons_zero, reps, hv, Option.bind_some, hb, Option.map_some]
  | w :: l, u, n + 1, v, x, h, hv => by
    simp only [reps, Option.bind_eq_some_iff, Option.map_eq_some_iff] at h
    obtain ⟨a, ha, b, hb, rfl⟩ := h
    simp only [List.set_cons_succ, reps, ha, Option.bind_some, reps_set n hb hv, Option.map_some]
theorem reps_cons {E : Env} {v : V} {l : List V} {x : Value} {u : List Value} (h : rep E v = some x) (k : reps E l = some u) : reps E (v :: l) = some (x :: u) := by
  simp only [reps, h, Option.bind_some, k, Option.map_some]
theorem reps_nil {E : Env} : reps E [] = some [] := rfl
theorem reps_of_all {E : Env} : ∀ (l : List V), (∀ v ∈ l, ∃ x, rep E v = some x) → ∃ u, reps E l = some u
  | [], _ => ⟨[], rfl⟩
  | v :: l, h => by
    obtain ⟨x, hx⟩ := h v (by simp)
    obtain ⟨u, hu⟩ := reps_of_all l (fun w hw => h w (by simp [hw]))
    exact ⟨x :: u, reps_cons hx hu⟩
theorem reps_mem {E : Env} : ∀ {l : List V} {u : List Value}, reps E l = some u → ∀ v ∈ l, ∃ x, rep E v = some x
  | [], u, h, v, hv => by simp at hv
  | w :: l, u, h, v, hv => by
    simp only [reps, Option.bind_eq_some_iff, Option.map_eq_some_iff] at h
    obtain ⟨a, ha, b, hb, rfl⟩ := h
    rcases List.mem_cons.1 hv with rfl | hv
    · exact ⟨a, ha⟩
    · exact reps_mem hb v hv

/-- A constant as the engine has it: it names no block. -/
def ofVal : Nat → Value → Option V
  | 0, _ => none
  | _ + 1, .bool b => some (.bool b)
  | _ + 1, .int k n => some (.int k n)
  | _ + 1, .string s => some (.str s.data.toList)
  | _ + 1, .pointer none => some .nilp
  | _ + 1, .slice none 0 0 => some .nils
  | _ + 1, .map none => some .nilm
  | _ + 1, .nilFunc => some .nilf
  | _ + 1, .nilIface => some .nili
  | n + 1, .iface t v => (ofVal n v).map (.iface t)
  | n + 1, .agg cs => (cs.toList.mapM (ofVal n)).map .agg
  | n + 1, .tuple cs => (cs.toList.mapM (ofVal n)).map .tup
  | n + 1, .func f xs ys => (xs.toList.mapM (ofVal n)).bind fun a => (ys.toList.mapM (ofVal n)).map fun b => .fn f a b
  | _ + 1, _ => none
theorem mapM_reps {E : Env} {n : Nat} (h : ∀ v x, ofVal n v = some x → rep E x = some v) : ∀ (l : List Value) (l' : List V), l.mapM (ofVal n) = some l' → reps E l' = some l
  | [], l', e => by simp at e; subst e; rfl
  | v :: l, l', e => by
    simp only [List.mapM_cons, Option.bind_eq_bind, Option.bind_eq_some_iff, Option.pure_def, Option.some.injEq] at e
    obtain ⟨a, ha, b, hb, rfl⟩ := e
    exact reps_cons (h _ _ ha) (mapM_reps h l b hb)
theorem rep_ofVal {E : Env} : ∀ (n : Nat) (v : Value) (x : V), ofVal n v = some x → rep E x = some v := by
  intro n
  induction n with
  | zero => intro v x h; simp [ofVal] at h
  | succ n ih =>
    intro v x h
    cases v <;> try simp only [ofVal] at h
    case bool => cases h; rfl
    case int => cases h; rfl
    case float => cases h
    case complex => cases h
    case string s => cases h; simp [rep]
    case pointer a => cases a <;> simp [ofVal] at h; subst h; rfl
    case slice a len cap =>
      cases a
      · cases len <;> cases cap <;> simp [ofVal] at h
        subst h; rfl
      · simp [ofVal] at h
    case map r => cases r <;> simp [ofVal] at h; subst h; rfl
    case chan => cases h
    case func f xs ys =>
      simp only [Option.bind_eq_some_iff, Option.map_eq_some_iff] at h
      obtain ⟨a, ha, b, hb, rfl⟩ := h
      simp only [rep, mapM_reps ih _ _ ha, mapM_reps ih _ _ hb, Option.bind_some, Option.map_some, Array.toArray_toList]
    case nilFunc => cases h; rfl
    case iface t v =>
      simp only [Option.map_eq_some_iff] at h
      obtain ⟨a, ha, rfl⟩ := h
      simp only [rep, ih _ _ ha, Option.map_some]
    case nilIface => cases h; rfl
    case agg cs =>
      simp only [Option.map_eq_some_iff] at h
      obtain ⟨a, ha, rfl⟩ := h
      simp only [rep, mapM_reps ih _ _ ha, Option.map_some, Array.toArray_toList]
    case tuple cs =>
      simp only [Option.map_eq_some_iff] at h
      obtain ⟨a, ha, rfl⟩ := h
      simp only [rep, mapM_reps ih _ _ ha, Option.map_some, Array.toArray_toList]

end Go.Proofs.YtdjpjmojmppjkaaGreat.Eng

/- Lengths, equality, comparison are the model's. -/
import Derived.ChangeKeysEq
import Derived.Test.YtdjpjmojmppjkaaGreatFltOk5
namespace Go.Proofs.YtdjpjmojmppjkaaGreat.Eng
open Go

section
variable {P : Program} {E : Env} {m : M} {w : World}

theorem ereps_length {es : List (V × V × Nat)} : ∀ {l : List MapEntry}, ereps E es = some l → l.length = es.length := by
  induction es with
  | nil => intro l h; simp only [ereps, Option.some.injEq] at h; subst h; rfl
  | cons p es ih =>
    obtain ⟨k, v, b⟩ := p
    intro l h
    simp only [ereps, Option.bind_eq_some_iff, Option.map_eq_some_iff] at h
    obtain ⟨_, _, _, _, r, hr, rfl⟩ := h
    simp [ih hr]

theorem rep_sl_shape {b o len sz : Nat} {cap : Option Nat} {u : Value} (h : rep E (.sl b o len cap sz) = some u) : ∃ a c, u = .slice (some a) len c := by
  obtain ⟨x, c, _, rfl, _⟩ := rep_sl h; exact ⟨_, _, rfl⟩
theorem rep_sle_shape {b o l sz : Nat} {u : Value} (h : rep E (.sle b o l sz) = some u) : ∃ a c, u = .slice (some a) 0 c := by
  simp only [rep, Option.bind_eq_some_iff] at h
  obtain ⟨xb, _, h⟩ := h
  split at h
  · cases h; split <;> exact ⟨_, _, rfl⟩
  · cases h

theorem fLen_ok (h : Rel E m w) {t : TypeId} {x : V} {ux : Value} {ts : Array TypeId} {ty : TypeId} {out : FO} (ht : ts[0]? = some t) (hx : rep E x = some ux) (hf : fLen P t m x = some out) :
    ∃ v u, out = .v v ∧ (Builtin.len_ ts ty #[ux]).run P w = .ok u w ∧ rep E v = some u := by
  unfold fLen at hf
  split at hf
  · rename_i _ _ _ hy
    split at hf
    · rename_i s
      cases hf; cases hx
      have hsz : (ByteArray.mk s.toArray).size = s.length := by show s.toArray.size = _; simp
      exact ⟨_, _, rfl, by simp [Builtin.len_, ht, run_underlying (tyOk hy).u, goInt, hsz] <;> rfl, rfl⟩
    · cases hf
  · rename_i n _ _ _ _ hy
    cases hf
    exact ⟨_, .int .i64 n, rfl, by simp [Builtin.len_, ht, run_underlying (tyOk hy).u, goInt], rfl⟩
  · rename_i _ _ _ _ hy
    split at hf
    · cases hf; cases hx
      exact ⟨_, .int .i64 0, rfl, by simp [Builtin.len_, ht, run_underlying (tyOk hy).u, goInt], rfl⟩
    · cases hf
      obtain ⟨a, c, rfl⟩ := rep_sl_shape hx
      rename_i n _ _
      exact ⟨_, .int .i64 n, rfl, by simp [Builtin.len_, ht, run_underlying (tyOk hy).u, goInt], rfl⟩
    · cases hf
      obtain ⟨a, c, rfl⟩ := rep_sle_shape hx
      exact ⟨_, .int .i64 0, rfl, by simp [Builtin.len_, ht, run_underlying (tyOk hy).u, goInt], rfl⟩
    · cases hf
      cases hx
      rename_i n _
      exact ⟨_, .int .i64 n, rfl, by simp [Builtin.len_, ht, run_underlying (tyOk hy).u, goInt], rfl⟩
    · cases hf
      obtain ⟨a, n, c, rfl, hn⟩ := rep_osli hx
      exact ⟨_, .int .i64 n, rfl, by simp [Builtin.len_, ht, run_underlying (tyOk hy).u, goInt], hn⟩
    · cases hf
  · rename_i _ _ _ _ _ hy
    split at hf
    · rename_i es hmo
      cases hf
      rcases mapOf_ok h hx hmo with ⟨rfl, rfl⟩ | ⟨b, xb, l, clock, root, al, rfl, hb, rfl, hlk, hl, ho⟩
      · exact ⟨_, .int .i64 0, rfl, by simp [Builtin.len_, ht, run_underlying (tyOk hy).u, goInt], rfl⟩
      · exact ⟨_, .int .i64 es.length, rfl, by simp [Builtin.len_, ht, run_underlying (tyOk hy).u, goInt, run_getObj ho (fun _ _ _ => by simp), ereps_length hl], rfl⟩
    · cases hf
  · rename_i a _ _ _ hy
    split at hf
    · rename_i n _ _ _ _ ha
      cases hf
      exact ⟨_, .int .i64 n, rfl, by simp [Builtin.len_, ht, run_underlying (tyOk hy).u, run_underlying (tyOk ha).u, goInt], rfl⟩
    · cases hf
  · cases hf

theorem max_ok : ∀ (l : List V) (us : List Value) (k : IntKind) (x : Int) (v : V), reps E l = some us → mxmn true (.int k x) l = some v → ∃ u, (us.foldlM Builtin.max2 (.int k x)).run P w = .ok u w ∧ rep E v = some u
  | [], us, k, x, v, h, hm => by
    simp only [reps, Option.some.injEq] at h; subst h
    simp only [mxmn, Option.some.injEq] at hm; subst hm
    exact ⟨_, by simp <;> rfl, rfl⟩
  | y :: l, us, k, x, v, h, hm => by
    obtain ⟨u, us', rfl, hu, hus⟩ := reps_inv h
    cases y <;> simp only [mxmn] at hm <;> try cases hm
    rename_i k' y
    cases hu
    have hstep : (Builtin.max2 (.int k x) (.int k' y)).run P w = .ok (.int k (if y > x then y else x)) w := by simp [Builtin.max2]
    have : (cond (cond true (ilt x y) (ilt y x)) (V.int k y) (V.int k x)) = V.int k (if y > x then y else x) := by
      rw [cond_true, ilt_eq]
      by_cases e : x < y
      · rw [if_pos (by omega)]; simp [e]
      · rw [if_neg (by omega)]; simp [e]
    rw [this] at hm
    obtain ⟨u, h1, h2⟩ := max_ok l us' k _ v hus hm
    exact ⟨u, by rw [List.foldlM_cons, Sem.run_bind, hstep, Result.andThen_ok, h1], h2⟩
theorem min_ok : ∀ (l : List V) (us : List Value) (k : IntKind) (x : Int) (v : V), reps E l = some us → mxmn false (.int k x) l = some v → ∃ u, (us.foldlM Builtin.min2 (.int k x)).run P w = .ok u w ∧ rep E v = some u
  | [], us, k, x, v, h, hm => by
    simp only [reps, Option.some.injEq] at h; subst h
    simp only [mxmn, Option.some.injEq] at hm; subst hm
    exact ⟨_, by simp <;> rfl, rfl⟩
  | y :: l, us, k, x, v, h, hm => by
    obtain ⟨u, us', rfl, hu, hus⟩ := reps_inv h
    cases y <;> simp only [mxmn] at hm <;> try cases hm
    rename_i k' y
    cases hu
    have hstep : (Builtin.min2 (.int k x) (.int k' y)).run P w = .ok (.int k (if y < x then y else x)) w := by simp [Builtin.min2]
    have : (cond (cond false (ilt x y) (ilt y x)) (V.int k y) (V.int k x)) = V.int k (if y < x then y else x) := by
      rw [cond_false, ilt_eq]
      by_cases e : y < x
      · rw [if_pos e]; simp [e]
      · rw [if_neg e]; simp [e]
    rw [this] at hm
    obtain ⟨u, h1, h2⟩ := min_ok l us' k _ v hus hm
    exact ⟨u, by rw [List.foldlM_cons, Sem.run_bind, hstep, Result.andThen_ok, h1], h2⟩

theorem fUn_ok {op : UnOp} {x : V} {ux : Value} {out : FO} (hx : rep E x = some ux) (hf : fUn op x = some out) (w : World) : ∃ v u, out = .v v ∧ (Op.unary op ux).run P w = .ok u w ∧ rep E v = some u := by
  cases x <;> simp only [fUn] at hf <;> try cases hf
  case bool b =>
    cases hx
    cases op <;> cases hf
    exact ⟨_, _, rfl, by simp [Op.unary] <;> rfl, rfl⟩
  case int k n =>
    cases hx
    cases op
    case neg => cases hf; exact ⟨_, _, rfl, by simp only [Op.unary, Op.intArith, Sem.run_pure] <;> rfl, by rw [fw_eq]; rfl⟩
    case xor =>
      simp only [ibits, Option.map_some, Option.some.injEq] at hf
      subst hf
      exact ⟨_, _, rfl, by simp only [Op.unary, Op.intBits, Sem.run_pure] <;> rfl, rfl⟩
    all_goals cases hf

theorem run_equalIn_slice_nil' (d : Nat) (t e : TypeId) (a : Option Addr) (l c : Nat) (h : P.underlying t = some (.slice e)) : (Op.equalIn (d + 1) t (.slice none l c) (.slice a l c)).run P w = .ok a.isNone w := by
  simp [Op.equalIn, run_underlying h]

theorem feq_ok {d : Nat} {eqf : TypeId → V → V → Option Bool} (heq : ∀ t x y ux uy b, eqf t x y = some b → rep E x = some ux → rep E y = some uy → (Op.equalIn d t ux uy).run P w = .ok b w)
    {xs ys : List V} {us vs : List Value} (hu : reps E xs = some us) (hv : reps E ys = some vs) : ∀ (fs : List Field) (b : Bool), feq P eqf xs ys fs = some b → (Op.eqFields d us.toArray vs.toArray fs).run P w = .ok b w
  | [], b, h => by simp only [feq, Option.some.injEq] at h; subst h; rfl
  | f :: fs, b, h => by
    simp only [feq] at h
    obtain ⟨h1, h2⟩ := cond_some' h
    have hne : f.name ≠ "_" := by simpa using h1
    split at h2
    · rename_i yf hyf
      split at h2
      · rename_i a c ha hc
        obtain ⟨ua, hra, hua⟩ := partV_ok (P := P) (tyOk hyf) hu ha w
        obtain ⟨uc, hrc, huc⟩ := partV_ok (P := P) (tyOk hyf) hv hc w
        simp only [Op.eqFields, if_pos hne, Sem.run_bind, hra, hrc, Result.andThen_ok]
        split at h2
        · rename_i hq
          rw [heq _ _ _ _ _ _ hq hua huc]
          simp only [Result.andThen_ok, Bool.not_true, Bool.false_eq_true, if_false]
          exact feq_ok heq hu hv fs b h2
        · rename_i hq
          cases h2
          rw [heq _ _ _ _ _ _ hq hua huc]
          simp
        · cases h2
      · cases h2
    · cases h2

theorem aeq_ok {d : Nat} {e : TypeId} {ye : Ty} (hye : TyOk P e ye) {eqf : V → V → Option Bool} (heq : ∀ x y ux uy b, eqf x y = some b → rep E x = some ux → rep E y = some uy → (Op.equalIn d e ux uy).run P w = .ok b w)
    {xs ys : List V} {us vs : List Value} (hu : reps E xs = some us) (hv : reps E ys = some vs) : ∀ (l : List Nat) (b : Bool), aeq eqf ye xs ys l = some b → (Op.eqItems d e ye.size us.toArray vs.toArray l).run P w = .ok b w
  | [], b, h => by simp only [aeq, Option.some.injEq] at h; subst h; rfl
  | i :: l, b, h => by
    simp only [aeq] at h
    split at h
    · rename_i a c ha hc
      obtain ⟨ua, hra, hua⟩ := partV_ok (P := P) hye hu ha w
      obtain ⟨uc, hrc, huc⟩ := partV_ok (P := P) hye hv hc w
      simp only [Op.eqItems, Sem.run_bind, hra, hrc, Result.andThen_ok]
      split at h
      · rename_i hq
        rw [heq _ _ _ _ _ hq hua huc]
        simp only [Result.andThen_ok, Bool.not_true, Bool.false_eq_true, if_false]
        exact aeq_ok hye heq hu hv l b h
      · rename_i hq
        cases h
        rw [heq _ _ _ _ _ hq hua huc]
        simp
      · cases h
    · cases h

theorem veq_ok : ∀ (d n : Nat) (t : TypeId) (x y : V) (ux uy : Value) (b : Bool), veq P d t x y = some b → rep E x = some ux → rep E y = some uy → (Op.equalIn (d + n) t ux uy).run P w = .ok b w
  | 0, n, t, x, y, ux, uy, b, h, _, _ => by simp [veq] at h
  | d + 1, n, t, x, y, ux, uy, b, h, hx, hy => by
    have hd : d + 1 + n = (d + n) + 1 := by omega
    rw [hd]
    simp only [veq] at h
    split at h
    · rename_i yt hyt
      have hu := (tyOk hyt).u
      split at h
      · rename_i k hk; rw [hk] at hu
        split at h
        · obtain ⟨h1, h2⟩ := cond_some h
          cases keq_eq h1; cases h2; cases hx; cases hy
          rw [ieq_eq]; exact run_equalIn_int w _ _ _ _ _ _ hu
        · cases h
      · rename_i hk; rw [hk] at hu
        split at h
        · cases h; cases hx; cases hy; exact run_equalIn_bool' w _ _ _ _ hu
        · cases h
      · rename_i hk; rw [hk] at hu
        split at h
        · rename_i s1 s2
          cases h; cases hx; cases hy
          rw [run_equalIn_string w _ _ _ _ hu, bytes_toList, bytes_toList, beqs_eq]
        · cases h
      · rename_i e hk; rw [hk] at hu
        split at h
        · cases h; cases hx; cases hy; simp [Op.equalIn, run_underlying hu]
        · cases h; cases hx; obtain ⟨_, _, rfl⟩ := rep_ptr hy; simp [Op.equalIn, run_underlying hu]
        · cases h; cases hy; obtain ⟨_, _, rfl⟩ := rep_ptr hx; simp [Op.equalIn, run_underlying hu]
        · cases h
      · rename_i e hk; rw [hk] at hu
        split at h
        · cases h; cases hx; cases hy; simp [Op.equalIn, run_underlying hu]
        · cases h; cases hx; obtain ⟨_, _, rfl⟩ := rep_sl_shape hy; simp [Op.equalIn, run_underlying hu]
        · cases h; cases hy; obtain ⟨_, _, rfl⟩ := rep_sl_shape hx; simp [Op.equalIn, run_underlying hu]
        · cases h; cases hy; obtain ⟨_, _, rfl⟩ := rep_sle_shape hx; simp [Op.equalIn, run_underlying hu]
        · cases h
      · rename_i ek ev hk; rw [hk] at hu
        split at h
        · cases h; cases hx; cases hy; simp [Op.equalIn, run_underlying hu]
        · cases h; cases hx
          simp only [rep, Option.map_eq_some_iff] at hy; obtain ⟨_, _, rfl⟩ := hy
          simp [Op.equalIn, run_underlying hu]
        · cases h; cases hy
          simp only [rep, Option.map_eq_some_iff] at hx; obtain ⟨_, _, rfl⟩ := hx
          simp [Op.equalIn, run_underlying hu]
        · cases h
      · rename_i a1 a2 a3 hk; rw [hk] at hu
        split at h
        · cases h; cases hx; cases hy; simp [Op.equalIn, run_underlying hu]
        · cases h; cases hx
          simp only [rep, Option.bind_eq_some_iff, Option.map_eq_some_iff] at hy; obtain ⟨_, _, _, _, rfl⟩ := hy
          simp [Op.equalIn, run_underlying hu]
        · cases h; cases hy
          simp only [rep, Option.bind_eq_some_iff, Option.map_eq_some_iff] at hx; obtain ⟨_, _, _, _, rfl⟩ := hx
          simp [Op.equalIn, run_underlying hu]
        · cases h
      · rename_i fs hk; rw [hk] at hu
        split at h
        · obtain ⟨h1, h2⟩ := cond_some' h
          simp only [rep, Option.map_eq_some_iff] at hx hy
          obtain ⟨us, hus, rfl⟩ := hx
          obtain ⟨vs, hvs, rfl⟩ := hy
          have hfo : P.fieldsOf t = fs := by unfold Program.fieldsOf; rw [hu]
          rw [run_equalIn_struct w _ t _ _ (by rw [hfo]; exact hu) h1, hfo]
          exact feq_ok (fun t x y ux uy b hq hx hy => veq_ok d n t x y ux uy b hq hx hy) hus hvs _ _ h2
        · cases h
      · rename_i an ae hk; rw [hk] at hu
        split at h
        · simp only [rep, Option.map_eq_some_iff] at hx hy
          obtain ⟨us, hus, rfl⟩ := hx
          obtain ⟨vs, hvs, rfl⟩ := hy
          split at h
          · rename_i ye hye
            obtain ⟨i, hi, hsz, _⟩ := (tyOk hye).info
            have hc : P.cellsOf ae = ye.size := by unfold Program.cellsOf; rw [hi]; simpa using hsz
            rw [run_equalIn_array w _ _ _ hu hi, hc]
            exact aeq_ok (tyOk hye) (fun x y ux uy b hq hx hy => veq_ok d n ae x y ux uy b hq hx hy) hus hvs _ _ h
          · cases h
        · cases h
      · cases h
    · cases h

end
end Go.Proofs.YtdjpjmojmppjkaaGreat.Eng

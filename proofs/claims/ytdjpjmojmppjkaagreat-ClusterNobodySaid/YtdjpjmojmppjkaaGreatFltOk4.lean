/- Maps, conversions, lengths and equality are the model's. -/
import Derived.Test.YtdjpjmojmppjkaaGreatFlt2
namespace Go.Proofs.YtdjpjmojmppjkaaGreat.Eng
open Go

section
variable {P : Program} {E : Env} {m : M} {w : World}

theorem keyeq_ok {k k' : V} {u u' : Value} {b : Bool} {d : TypeDesc} (h : rep E k = some u) (h' : rep E k' = some u') (hd : keyD d k = true) (hk : keyeq k k' = some b) : Instr.sameNow d u u' = some b := by
  unfold keyeq at hk
  split at hk
  · obtain ⟨h1, h2⟩ := cond_some hk
    cases h; cases h'; cases h2
    cases keq_eq h1
    cases d <;> cases hd
    simp [Instr.sameNow, ieq_eq]
  · cases h; cases h'; cases hk
    cases d <;> cases hd
    rw [beqs_eq]
    simp only [Instr.sameNow, beq_toListBytes, bytes_toList]
  · cases h; cases h'; cases hk
    cases d <;> cases hd
    rename_i a b
    cases a <;> cases b <;> rfl
  · cases hk

theorem mfind_ok {k : V} {u : Value} {d : TypeDesc} (h : rep E k = some u) (hd : keyD d k = true) : ∀ (es : List (V × V × Nat)) (l : List MapEntry) (i : Nat) (r : Option (Nat × V)), ereps E es = some l → mfind k es i = some r →
    ∃ r', Instr.findNow d u l i = some r' ∧ (r = none → r' = none) ∧ (∀ j v, r = some (j, v) → ∃ vu, r' = some (j, vu) ∧ rep E v = some vu ∧ i ≤ j ∧ ∃ k' b e, es[j - i]? = some (k', v, b) ∧ l[j - i]? = some e ∧ e.val = vu ∧ e.born = b ∧ rep E k' = some e.key ∧ keyeq k k' = some true)
  | [], l, i, r, he, hm => by
    simp only [ereps, Option.some.injEq] at he; subst he
    simp only [mfind, Option.some.injEq] at hm; subst hm
    exact ⟨none, rfl, fun _ => rfl, fun j v hh => by cases hh⟩
  | (k', v, b) :: es, l, i, r, he, hm => by
    simp only [ereps, Option.bind_eq_some_iff, Option.map_eq_some_iff] at he
    obtain ⟨ku, hku, vu, hvu, rest, hrest, rfl⟩ := he
    simp only [mfind] at hm
    cases hq : keyeq k k' with
    | none => rw [hq] at hm; cases hm
    | some q =>
      rw [hq] at hm
      have hs := keyeq_ok h hku hd hq
      cases q with
      | true =>
        cases hm
        refine ⟨some (i, vu), by simp [Instr.findNow, hs], fun hh => (by cases hh), fun j v' hh => ?_⟩
        cases hh
        exact ⟨vu, rfl, hvu, Nat.le_refl _, k', b, ⟨ku, vu, b⟩, by simp, by simp, rfl, rfl, hku, hq⟩
      | false =>
        dsimp only at hm
        obtain ⟨r', h1, h2, h3⟩ := mfind_ok h hd es rest (i + 1) r hrest hm
        refine ⟨r', by simp [Instr.findNow, hs, h1], h2, fun j v' hh => ?_⟩
        obtain ⟨vu', e1, e2, e3, k2, b2, e, e4, e5, e6⟩ := h3 j v' hh
        refine ⟨vu', e1, e2, by omega, k2, b2, e, ?_, ?_, e6⟩
        · have : j - i = (j - (i + 1)) + 1 := by omega
          rw [this]; exact e4
        · have : j - i = (j - (i + 1)) + 1 := by omega
          rw [this]; exact e5

theorem run_checkKey' {t : TypeId} {y : Ty} {k : V} {u : Value} (hy : TyOk P t y) (h : rep E k = some u) (hd : keyD y.u k = true) (b : Bool) (n : Nat) (w : World) : (Instr.checkKey b (n + 1) t u).run P w = .ok () w := by
  have hu := hy.u
  cases hyu : y.u <;> rw [hyu] at hd <;> cases k <;> cases hd <;> rw [hyu] at hu <;> cases h <;> simp [Instr.checkKey, run_underlying hu]
theorem run_checkKey {t : TypeId} {y : Ty} {k : V} {u : Value} (hy : TyOk P t y) (h : rep E k = some u) (hd : keyD y.u k = true) (b : Bool) (w : World) : (Instr.checkKey b 10000 t u).run P w = .ok () w := run_checkKey' hy h hd b 9999 w
theorem run_findKey {t : TypeId} {y : Ty} {u : Value} {l : List MapEntry} {r : Option (Nat × Value)} (hy : TyOk P t y) (h : Instr.findNow y.u u l 0 = some r) (w : World) : (Instr.findKey t u l).run P w = .ok r w := by
  simp [Instr.findKey, run_underlying hy.u, h]

theorem mapOf_ok (h : Rel E m w) {x : V} {ux : Value} {es : List (V × V × Nat)} (hx : rep E x = some ux) (hm : mapOf m x = some es) :
    (ux = .map none ∧ es = []) ∨ ∃ b xb l clock root al, x = .map b ∧ E b = some xb ∧ ux = .map (some xb.r) ∧ look m b = some ⟨.map es clock, root, al⟩ ∧ ereps E es = some l ∧ w.heap[xb.r]? = some (.map l.toArray clock) := by
  cases x <;> simp only [mapOf] at hm <;> try cases hm
  case nilm => cases hx; exact .inl ⟨rfl, rfl⟩
  case map b =>
    split at hm
    · rename_i es' clock root al hl
      cases hm
      simp only [rep, Option.map_eq_some_iff] at hx
      obtain ⟨xb, hb, rfl⟩ := hx
      obtain ⟨o, ho, hr⟩ := obj_eq h hl hb
      obtain ⟨l, hl2, rfl⟩ := hr
      exact .inr ⟨b, xb, l, clock, root, al, rfl, hb, rfl, hl, hl2, ho⟩
    · cases hm

theorem run_getObj {r : Nat} {o : Obj} (h : w.heap[r]? = some o) (hc : ∀ c t f, o ≠ .cells c t f) : (getObj r).run P w = .ok o w := by
  simp only [getObj, Sem.run, h] <;> cases o <;> first | rfl | exact absurd rfl (hc _ _ _)
theorem run_setObj {r : Nat} {o o' : Obj} (h : w.heap[r]? = some o) (hc : ∀ c t f, o ≠ .cells c t f) : (setObj r o').run P w = .ok () (w.putObj r o') := by
  simp only [setObj, Sem.run, h]
  cases o <;> first | rfl | exact absurd rfl (hc _ _ _)

theorem rep_lookup {ok : Bool} {v : V} {vu : Value} {b : Bool} (h : rep E v = some vu) : rep E (cond ok (.tup [v, .bool b]) v) = some (if ok = true then .tuple #[vu, .bool b] else vu) := by
  cases ok
  · simpa using h
  · simp only [cond_true, if_true, rep, reps, h, Option.bind_some, Option.map_some]

theorem fLookup_ok (h : Rel E m w) {t : TypeId} {x k : V} {ux uk : Value} {ok : Bool} {out : FO} (hx : rep E x = some ux) (hk : rep E k = some uk) (hf : fLookup P t m x k ok = some out) :
    ∃ v u, out = .v v ∧ (Instr.lookup t ux uk ok).run P w = .ok u w ∧ rep E v = some u := by
  unfold fLookup at hf
  split at hf
  · rename_i kt et _ _ _ ht
    split at hf
    · rename_i yk es hyk hmo
      obtain ⟨hkd, hf⟩ := cond_some hf
      have hyk' := tyOk hyk
      obtain ⟨l, hl, hrun⟩ : ∃ l, ereps E es = some l ∧ ∀ (r : Option (Nat × Value)), Instr.findNow yk.u uk l 0 = some r → (Instr.lookup t ux uk ok).run P w =
          ((match r with | some (_, v) => (pure (v, true) : Sem (Value × Bool)) | none => do pure (← zeroValue et, false)).run P w).andThen fun a w' => .ok (if ok = true then .tuple #[a.1, .bool a.2] else a.1) w' := by
        rcases mapOf_ok h hx hmo with ⟨rfl, rfl⟩ | ⟨b, xb, l, clock, root, al, rfl, hb, rfl, hlk, hl, ho⟩
        · refine ⟨[], rfl, fun r hr => ?_⟩
          simp only [Instr.lookup, Sem.run_bind, run_underlying (tyOk ht).u, Result.andThen_ok, Sem.run_pure, run_checkKey hyk' hk hkd, run_findKey hyk' hr]
          cases r with
          | none => simp only [Sem.run_bind, Sem.run_pure]; cases (Sem.run P (zeroValue et) w) <;> split <;> rfl
          | some p => simp only [Sem.run_pure, Result.andThen_ok]; split <;> rfl
        · refine ⟨l, hl, fun r hr => ?_⟩
          simp only [Instr.lookup, Sem.run_bind, run_underlying (tyOk ht).u, Result.andThen_ok, Sem.run_pure, run_getObj ho (fun _ _ _ => by simp), run_checkKey hyk' hk hkd, run_findKey hyk' hr]
          cases r with
          | none => simp only [Sem.run_bind, Sem.run_pure]; cases (Sem.run P (zeroValue et) w) <;> split <;> rfl
          | some p => simp only [Sem.run_pure, Result.andThen_ok]; split <;> rfl
      split at hf
      · rename_i j v hmf
        cases hf
        obtain ⟨r', h1, _, h3⟩ := mfind_ok hk hkd es l 0 _ hl hmf
        obtain ⟨vu, rfl, hv, _⟩ := h3 _ _ rfl
        exact ⟨_, _, rfl, by rw [hrun _ h1]; rfl, rep_lookup hv⟩
      · rename_i hmf
        obtain ⟨r', h1, h2, _⟩ := mfind_ok hk hkd es l 0 _ hl hmf
        have := h2 rfl; subst this
        split at hf
        · rename_i z het
          cases hf
          obtain ⟨Z, hZ, hzr⟩ := run_zeroValue (tyOk het) rfl w
          exact ⟨_, _, rfl, by rw [hrun _ h1]; simp only [Sem.run_bind, hZ, Result.andThen_ok, Sem.run_pure], rep_lookup (hzr E)⟩
        · cases hf
      · cases hf
    · cases hf
  · cases hf

end
end Go.Proofs.YtdjpjmojmppjkaaGreat.Eng

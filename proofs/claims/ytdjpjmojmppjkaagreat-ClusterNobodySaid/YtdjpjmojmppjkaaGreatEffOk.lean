/- What comes of operations that write is what comes of the model's. -/
import Derived.Test.YtdjpjmojmppjkaaGreatEff
namespace Go.Proofs.YtdjpjmojmppjkaaGreat.Eng
open Go

section
variable {P : Program} {E : Env} {m m' : M} {w : World}

theorem oneV_ok {v : V} {u : Value} (h : rep E v = some u) (h1 : oneV v = true) : u.oneCell' = true := by
  cases v <;> simp only [oneV, Bool.false_eq_true] at h1
  case bool => cases h; rfl
  case int => cases h; rfl
  case str => cases h; rfl
  case nilp => cases h; rfl
  case ptr => obtain ⟨_, _, rfl⟩ := rep_ptr h; rfl
  case nils => cases h; rfl
  case sl => obtain ⟨_, _, rfl⟩ := rep_sl_shape h; rfl
  case sle => obtain ⟨_, _, rfl⟩ := rep_sle_shape h; rfl
  case nilm => cases h; rfl
  case map => simp only [rep, Option.map_eq_some_iff] at h; obtain ⟨_, _, rfl⟩ := h; rfl
  case fn => simp only [rep, Option.bind_eq_some_iff, Option.map_eq_some_iff] at h; obtain ⟨_, _, _, _, rfl⟩ := h; rfl
  case yld => simp only [rep, Option.map_eq_some_iff] at h; obtain ⟨_, _, rfl⟩ := h; rfl
  case nilf => cases h; rfl
  case iface => simp only [rep, Option.map_eq_some_iff] at h; obtain ⟨_, _, rfl⟩ := h; rfl
  case nili => cases h; rfl
  case sym => cases h; rfl
  case osl => cases h; rfl
  case tok => simp only [rep, Option.map_eq_some_iff] at h; obtain ⟨_, _, rfl⟩ := h; rfl
  case symi => obtain ⟨_, rfl⟩ := rep_symi h; rfl
  case osli => obtain ⟨_, _, _, rfl, _⟩ := rep_osli h; rfl

theorem run_store_ok {a : Addr} {u v0 : Value} (h1 : u.oneCell' = true) (hc : w.cell? a = some v0) (hf : w.frozen? a = false) : (store a u).run P w = .ok () (w.setCell a u) := by
  rw [run_store P w a u .plain h1, hc]
  simp [hf]

theorem wrs_ok {b : Nat} {x : EB} : ∀ (l : List V) (us : List Value) (o i s0 : Nat) (m : M) (w : World), Rel E m w → wrs b l o m = some m' → reps E l = some us → E b = some x → s0 + i = x.s + o →
    ∃ w', (storeCells ⟨x.r, s0, none⟩ us i).run P w = .ok () w' ∧ Rel E m' w' ∧ Step E m w E m' w'
  | [], us, o, i, s0, m, w, h, hw, hr, hb, he => by
    simp only [reps, Option.some.injEq] at hr; subst hr
    have : m = m' := by simpa [wrs] using hw
    subst this
    exact ⟨w, by simp [storeCells], h, Step.refl _ _ _⟩
  | v :: l, us, o, i, s0, m, w, h, hw, hr, hb, he => by
    obtain ⟨u, us', rfl, hu, hus⟩ := reps_inv hr
    have hw' : cond (oneV v) (match m.wr b o v with | some m1 => wrs b l (o + 1) m1 | none => none) none = some m' := hw
    obtain ⟨h1, h2⟩ := cond_some hw'
    cases hm : m.wr b o v with
    | none => rw [hm] at h2; cases h2
    | some m1 =>
      rw [hm] at h2
      obtain ⟨⟨v0, hc⟩, hf, hrel, hstep⟩ := h.write hm hu hb
      have haddr : (⟨x.r, s0, none⟩ : Addr).add i = ⟨x.r, x.s + o, none⟩ := by rw [add_addr, he]
      obtain ⟨w', h3, h4, h5⟩ := wrs_ok l us' (o + 1) (i + 1) s0 m1 _ hrel h2 hus hb (by omega)
      refine ⟨w', ?_, h4, hstep.trans h h5⟩
      simp only [storeCells, Sem.run_bind, haddr, run_store_ok (oneV_ok hu h1) hc hf, Result.andThen_ok, h3]

theorem eStore_ok (h : Rel E m w) {t : TypeId} {a x : V} {ua ux : Value} (ha : rep E a = some ua) (hx : rep E x = some ux) (hf : eStore P t m a x = some m') :
    ∃ w', (Instr.storeAt t ua ux).run P w = .ok () w' ∧ Rel E m' w' ∧ Step E m w E m' w' := by
  cases a <;> simp only [eStore] at hf <;> try cases hf
  rename_i b o
  obtain ⟨xb, hb, rfl⟩ := rep_ptr ha
  split at hf
  · rename_i y hy
    obtain ⟨h1, h2⟩ := cond_some hf
    have hc := cellsV_rep hx
    have hl : ux.cells.size = y.size := by rw [← Array.length_toList, reps_length hc]; exact Nat.eq_of_beq_eq_true h1
    obtain ⟨w', h3, h4, h5⟩ := wrs_ok (P := P) (cellsV x) _ o 0 (xb.s + o) m w h h2 hc hb (by omega)
    refine ⟨w', ?_, h4, h5⟩
    simp only [Instr.storeAt, Sem.run_bind, Instr.sureAddr, Sem.run_pure, Result.andThen_ok, storeVar, run_sizeOf (tyOk hy), hl]
    simpa using h3
  · cases hf

theorem ereps_set {k v : V} {ku vu : Value} {b : Nat} (hk : rep E k = some ku) (hv : rep E v = some vu) : ∀ {es : List (V × V × Nat)} {l : List MapEntry} (i : Nat), ereps E es = some l → ereps E (es.set i (k, v, b)) = some (l.set i ⟨ku, vu, b⟩)
  | [], l, i, h => by simp only [ereps, Option.some.injEq] at h; subst h; rfl
  | (k', v', b') :: es, l, i, h => by
    simp only [ereps, Option.bind_eq_some_iff, Option.map_eq_some_iff] at h
    obtain ⟨ku', hk', vu', hv', r, hr, rfl⟩ := h
    cases i with
    | zero => simp only [List.set_cons_zero, ereps, hk, hv, hr, Option.bind_some, Option.map_some]
    | succ i => simp only [List.set_cons_succ, ereps, hk', hv', ereps_set hk hv i hr, Option.bind_some, Option.map_some]
theorem ereps_snoc {k v : V} {ku vu : Value} {b : Nat} (hk : rep E k = some ku) (hv : rep E v = some vu) : ∀ {es : List (V × V × Nat)} {l : List MapEntry}, ereps E es = some l → ereps E (es ++ [(k, v, b)]) = some (l ++ [⟨ku, vu, b⟩])
  | [], l, h => by simp only [ereps, Option.some.injEq] at h; subst h; simp only [List.nil_append, ereps, hk, hv, Option.bind_some, Option.map_some]
  | (k', v', b') :: es, l, h => by
    simp only [ereps, Option.bind_eq_some_iff, Option.map_eq_some_iff] at h
    obtain ⟨ku', hk', vu', hv', r, hr, rfl⟩ := h
    simp only [List.cons_append, ereps, hk', hv', ereps_snoc hk hv hr, Option.bind_some, Option.map_some]
theorem ereps_erase : ∀ {es : List (V × V × Nat)} {l : List MapEntry} (i : Nat), ereps E es = some l → ereps E (es.eraseIdx i) = some (l.eraseIdx i)
  | [], l, i, h => by simp only [ereps, Option.some.injEq] at h; subst h; rfl
  | (k', v', b') :: es, l, i, h => by
    simp only [ereps, Option.bind_eq_some_iff, Option.map_eq_some_iff] at h
    obtain ⟨ku', hk', vu', hv', r, hr, rfl⟩ := h
    cases i with
    | zero => simpa using hr
    | succ i => simp only [List.eraseIdx_cons_succ, ereps, hk', hv', ereps_erase i hr, Option.bind_some, Option.map_some]

theorem sb_int (n : Nat) (k : IntKind) (a : Int) : Instr.sameBits n (.int k a) (.int k a) = true := by cases n <;> simp [Instr.sameBits]
theorem sb_str (n : Nat) (s : ByteArray) : Instr.sameBits n (.string s) (.string s) = true := by
  have : (s == s) = true := by rw [beq_toListBytes]; simp
  cases n <;> simp [Instr.sameBits, this]
theorem sb_bool (n : Nat) (b : Bool) : Instr.sameBits n (.bool b) (.bool b) = true := by cases n <;> simp [Instr.sameBits]

theorem sameBits_ok' {k k' : V} {u u' : Value} (h : rep E k = some u) (h' : rep E k' = some u') (hk : keyeq k k' = some true) : Instr.sameBits 10000 u' u = true := by
  unfold keyeq at hk
  split at hk
  · rename_i k1 a k2 b
    obtain ⟨h1, h2⟩ := cond_some hk
    cases keq_eq h1
    simp only [Option.some.injEq] at h2
    rw [ieq_eq] at h2
    cases h; cases h'
    have e : a = b := by simpa using h2
    subst e
    exact sb_int _ _ _
  · rename_i s t
    simp only [Option.some.injEq] at hk
    rw [beqs_eq] at hk
    cases h; cases h'
    have e : s = t := by simpa using hk
    subst e
    exact sb_str _ _
  · rename_i a b
    cases h; cases h'
    cases a <;> cases b <;> first | exact sb_bool _ _ | cases hk
  · cases hk

theorem eMapSet_ok (h : Rel E m w) {t : TypeId} {x k v : V} {ux uk uv : Value} (hx : rep E x = some ux) (hk : rep E k = some uk) (hv : rep E v = some uv) (hf : eMapSet P t m x k v = some m') :
    ∃ w', (Instr.mapUpdate t ux uk uv).run P w = .ok () w' ∧ Rel E m' w' ∧ Step E m w E m' w' := by
  cases x <;> simp only [eMapSet] at hf <;> try cases hf
  rename_i b
  simp only [rep, Option.map_eq_some_iff] at hx
  obtain ⟨xb, hb, rfl⟩ := hx
  split at hf
  · rename_i kt et _ _ _ ht
    split at hf
    · rename_i yk es clock root al hyk hl
      obtain ⟨hkd, hf2⟩ := cond_some hf
      clear hf
      obtain ⟨o, ho, l, hl2, rfl⟩ := obj_eq h hl hb
      have hyk' := tyOk hyk
      have hpre : ∀ r, Instr.findNow yk.u uk l 0 = some r → (Instr.mapUpdate t (.map (some xb.r)) uk uv).run P w = ((match r with
          | some (i, _) => (do
            let key ← Instr.keyThatStays (((l.toArray[i]?).map (fun e : MapEntry => e.key)).getD uk) uk
            setObj xb.r (.map (l.toArray.modify i fun e => { e with key, val := uv }) clock) : Sem Unit)
          | none => setObj xb.r (.map (l.toArray.push { key := uk, val := uv, born := clock }) (clock + 1)))).run P w := by
        intro r hr
        simp only [Instr.mapUpdate, Sem.run_bind, run_underlying (tyOk ht).u, Result.andThen_ok, run_getObj ho (fun _ _ _ => by simp), run_checkKey hyk' hk hkd, run_findKey hyk' hr]
        cases r <;> simp only [Sem.run_bind]
      split at hf2
      · rename_i i v0 hmf
        obtain ⟨r', h1, _, h3⟩ := mfind_ok hk hkd es l 0 _ hl2 hmf
        obtain ⟨vu, rfl, hv0, _, k', born, e, he1, he2, he3, he4, he5, he6⟩ := h3 _ _ rfl
        rw [Nat.sub_zero] at he1 he2
        split at hf2
        · rename_i kk vv born' hn
          rw [nth_eq, he1] at hn
          cases hn
          rw [hpre _ h1]
          have hge : ((l.toArray[i]?).map (fun e : MapEntry => e.key)).getD uk = e.key := by rw [List.getElem?_toArray, he2]; rfl
          have hkeep : (Instr.keyThatStays e.key uk).run P w = .ok uk w := by simp [Instr.keyThatStays, sameBits_ok' hk he5 he6]
          simp only [Sem.run_bind, hge, hkeep, Result.andThen_ok, run_setObj ho (fun _ _ _ => by simp)]
          have hset : orep E xb (.map (upd es (k, v, born) i) clock) (.map (l.toArray.modify i fun e => { e with key := uk, val := uv }) clock) := by
            refine ⟨l.set i ⟨uk, uv, born⟩, by rw [upd_eq]; exact ereps_set hk hv i hl2, ?_⟩
            congr 1
            apply Array.ext'
            simp only [Array.toList_modify]
            apply List.ext_getElem?
            intro j
            rw [List.getElem?_modify, List.getElem?_set]
            by_cases e1 : i = j
            · subst e1
              have hlt := (List.getElem?_eq_some_iff.1 he2).1
              simp only [if_true, hlt, he2]
              show some (MapEntry.mk uk uv e.born) = _
              rw [he4]
            · simp only [if_neg e1]
              cases l[j]? <;> rfl
          obtain ⟨h6, h7⟩ := h.setObj hf2 hl hb hset rfl rfl
          exact ⟨_, rfl, h6, h7⟩
        · cases hf2
      · rename_i hmf
        obtain ⟨r', h1, h2, _⟩ := mfind_ok hk hkd es l 0 _ hl2 hmf
        have := h2 rfl; subst this
        rw [hpre _ h1]
        simp only [run_setObj ho (fun _ _ _ => by simp)]
        have hset : orep E xb (.map (es ++ [(k, v, clock)]) (clock + 1)) (.map (l.toArray.push { key := uk, val := uv, born := clock }) (clock + 1)) :=
          ⟨l ++ [⟨uk, uv, clock⟩], ereps_snoc hk hv hl2, by simp⟩
        obtain ⟨h6, h7⟩ := h.setObj hf2 hl hb hset rfl rfl
        exact ⟨_, rfl, h6, h7⟩
      · cases hf2
    · cases hf
  · cases hf

theorem putObj_self {r : Nat} {o : Obj} (h : w.heap[r]? = some o) : w.putObj r o = w := by
  unfold World.putObj
  have : w.heap.setIfInBounds r o = w.heap := by
    apply Array.ext_getElem?
    intro i
    by_cases e : r = i
    · subst e
      obtain ⟨hlt, he⟩ := Array.getElem?_eq_some_iff.1 h
      rw [Array.getElem?_setIfInBounds_self_of_lt hlt, h]
    · rw [Array.getElem?_setIfInBounds_ne e]
  rw [this]

theorem eDelete_ok (h : Rel E m w) {t ty : TypeId} {ats : Array TypeId} {x k : V} {ux uk : Value} (ht0 : ats[0]? = some t) (hx : rep E x = some ux) (hk : rep E k = some uk) (hf : eDelete P t m x k = some m') :
    ∃ w', (Builtin.delete_ ats ty #[ux, uk]).run P w = .ok (.tuple #[]) w' ∧ Rel E m' w' ∧ Step E m w E m' w' := by
  unfold eDelete at hf
  split at hf
  · rename_i kt et _ _ _ ht
    split at hf
    · rename_i yk hyk
      obtain ⟨hkd, hf2⟩ := cond_some hf
      clear hf
      have hyk' := tyOk hyk
      split at hf2
      · cases hf2; cases hx
        exact ⟨w, by simp [Builtin.delete_, ht0, run_underlying (tyOk ht).u, run_checkKey hyk' hk hkd], h, Step.refl _ _ _⟩
      · rename_i b
        simp only [rep, Option.map_eq_some_iff] at hx
        obtain ⟨xb, hb, rfl⟩ := hx
        split at hf2
        · rename_i es clock root al hl
          obtain ⟨o, ho, l, hl2, rfl⟩ := obj_eq h hl hb
          have hpre : ∀ r, Instr.findNow yk.u uk l 0 = some r → (Builtin.delete_ ats ty #[.map (some xb.r), uk]).run P w = (((match r with
              | some (i, _) => setObj xb.r (.map (l.toArray.eraseIdxIfInBounds i) clock)
              | none => setObj xb.r (.map l.toArray clock)) : Sem Unit).run P w).andThen fun _ w' => .ok (.tuple #[]) w' := by
            intro r hr
            simp only [Builtin.delete_, ht0, List.getElem?_toArray, List.getElem?_cons_zero, List.getElem?_cons_succ, Sem.run_bind, run_underlying (tyOk ht).u, Result.andThen_ok, run_getObj ho (fun _ _ _ => by simp), run_checkKey hyk' hk hkd, run_findKey hyk' hr]
            cases r <;> simp only [Sem.run_bind, Sem.run_pure]
          split at hf2
          · rename_i i v0 hmf
            obtain ⟨r', h1, _, h3⟩ := mfind_ok hk hkd es l 0 _ hl2 hmf
            obtain ⟨vu, rfl, _⟩ := h3 _ _ rfl
            rw [hpre _ h1]
            simp only [run_setObj ho (fun _ _ _ => by simp), Result.andThen_ok]
            have hset : orep E xb (.map (es.eraseIdx i) clock) (.map (l.toArray.eraseIdxIfInBounds i) clock) := ⟨l.eraseIdx i, ereps_erase i hl2, by simp⟩
            obtain ⟨h6, h7⟩ := h.setObj hf2 hl hb hset rfl rfl
            exact ⟨_, rfl, h6, h7⟩
          · rename_i hmf
            cases hf2
            obtain ⟨r', h1, h2, _⟩ := mfind_ok hk hkd es l 0 _ hl2 hmf
            have := h2 rfl; subst this
            rw [hpre _ h1]
            simp only [run_setObj ho (fun _ _ _ => by simp), Result.andThen_ok, putObj_self ho]
            exact ⟨_, rfl, h, Step.refl _ _ _⟩
          · cases hf2
        · cases hf2
      · cases hf2
    · cases hf
  · cases hf

theorem eClear_ok (h : Rel E m w) {t ty : TypeId} {ats : Array TypeId} {x : V} {ux : Value} (ht0 : ats[0]? = some t) (hx : rep E x = some ux) (hf : eClear P t m x = some m') :
    ∃ w', (Builtin.clear_ ats ty #[ux]).run P w = .ok (.tuple #[]) w' ∧ Rel E m' w' ∧ Step E m w E m' w' := by
  unfold eClear at hf
  split at hf
  · rename_i y hy
    have hd := (tyOk hy).u
    split at hf
    · cases hf; cases hx
      exact ⟨w, by simp [Builtin.clear_, ht0, run_underlying hd], h, Step.refl _ _ _⟩
    · cases hf; cases hx
      exact ⟨w, by simp [Builtin.clear_, ht0, run_underlying hd], h, Step.refl _ _ _⟩
    · rename_i b
      simp only [rep, Option.map_eq_some_iff] at hx
      obtain ⟨xb, hb, rfl⟩ := hx
      split at hf
      · rename_i kt et es clock root al ht hl
        obtain ⟨o, ho, l, hl2, rfl⟩ := obj_eq h hl hb
        have hset : orep E xb (.map [] clock) (.map #[] clock) := ⟨[], rfl, rfl⟩
        obtain ⟨h6, h7⟩ := h.setObj hf hl hb hset rfl rfl
        exact ⟨_, by simp [Builtin.clear_, ht0, run_underlying hd, run_getObj ho (fun _ _ _ => by simp), run_setObj ho (fun _ _ _ => by simp)], h6, h7⟩
      · cases hf
    · cases hf
      obtain ⟨a, c, rfl⟩ := rep_sle_shape hx
      exact ⟨w, by cases a <;> simp [Builtin.clear_, ht0, run_underlying hd], h, Step.refl _ _ _⟩
    · rename_i b o n cp sz
      split at hf
      · rename_i e hye
        split at hf
        · rename_i ud sz2 by2 z he
          cases hn : Nat.beq n 0 with
          | true =>
            rw [hn] at hf
            cases hf
            have : n = 0 := Nat.eq_of_beq_eq_true hn
            subst this
            obtain ⟨a, c, rfl⟩ := rep_sl_shape hx
            exact ⟨w, by cases a <;> simp [Builtin.clear_, ht0, run_underlying hd], h, Step.refl _ _ _⟩
          | false =>
            rw [hn] at hf
            dsimp only [cond_false] at hf
            have hn0 : n ≠ 0 := fun e => by subst e; cases hn
            obtain ⟨Z, hZ, hzr⟩ := zero_cells (tyOk he) rfl w
            have hb : ∃ xb cc, E b = some xb ∧ ux = .slice (some ⟨xb.r, xb.s + o, none⟩) n cc := by
              simp only [rep, Option.bind_eq_some_iff] at hx
              obtain ⟨xb, hb, hx⟩ := hx
              cases cp with
              | some c => cases hx; exact ⟨xb, c, hb, rfl⟩
              | none =>
                dsimp only at hx
                split at hx
                · cases hx; exact ⟨xb, _, hb, rfl⟩
                · cases hx
            obtain ⟨xb, cc, hb, rfl⟩ := hb
            obtain ⟨w', h1, h2, h3⟩ := wrs_ok (P := P) (repl (cellsV z) n) _ o 0 (xb.s + o) m w h hf (repl_ok (hzr E) n) hb (by omega)
            refine ⟨w', ?_, h2, h3⟩
            rw [hye] at hd
            have hzc : Builtin.zeroCells Z.cells n = ((List.replicate n Z.cells.toList).flatten).toArray := rep_flatten Z.cells n
            obtain ⟨n', rfl⟩ : ∃ n', n = n' + 1 := ⟨n - 1, by omega⟩
            simp [Builtin.clear_, ht0, run_underlying hd, hZ, hzc, h1]
        · cases hf
      · cases hf
    · cases hf
  · cases hf

end
end Go.Proofs.YtdjpjmojmppjkaaGreat.Eng

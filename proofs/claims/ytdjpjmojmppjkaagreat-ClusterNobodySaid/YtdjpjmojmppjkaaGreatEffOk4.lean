/- Copying, stepping through a map; all operations that write under one name. -/
import Derived.Test.YtdjpjmojmppjkaaGreatEffOk3
namespace Go.Proofs.YtdjpjmojmppjkaaGreat.Eng
open Go

section
variable {P : Program} {E : Env} {m m' : M} {w : World}

theorem eCopy_ok (h : Rel E m w) {t ty : TypeId} {ats : Array TypeId} {d s v : V} {ud us : Value} (ht0 : ats[0]? = some t) (hd : rep E d = some ud) (hs : rep E s = some us) (hf : eCopy P t m d s = some (v, m')) :
    ∃ u w', (Builtin.copy_ ats ty #[ud, us]).run P w = .ok u w' ∧ rep E v = some u ∧ Rel E m' w' ∧ Step E m w E m' w' := by
  unfold eCopy at hf
  split at hf
  · rename_i e _ _ _ ht
    split at hf
    · rename_i y hy
      split at hf
      · rename_i ld ls hld hls
        split at hf
        · rename_i cs hcs
          have hlr := lenV_ok (P := P) hs hls w
          obtain ⟨uc, h1, h2, h3⟩ := firstV_ok (P := P) h hs hcs (fun k hk => by rw [hls] at hk; cases hk; exact Nat.min_le_left _ _)
          have hsize := run_sizeOf (P := P) (tyOk hy) w
          have hpre : ∀ (base : Option Addr) (cap : Nat), ud = .slice base ld cap → (Builtin.copy_ ats ty #[ud, us]).run P w = ((match base with | some a => storeCells a uc | none => pure ()).run P w).andThen fun _ w' => .ok (goInt (Nat.min ls ld)) w' := by
            intro base cap hud
            subst hud
            simp only [Builtin.copy_, ht0, List.getElem?_toArray, List.getElem?_cons_zero, List.getElem?_cons_succ, Sem.run_bind, run_underlying (tyOk ht).u, Result.andThen_ok, hlr, hsize, h2]
            cases base <;> simp only [Sem.run_bind, Sem.run_pure, Result.andThen_ok]
          split at hf
          · rename_i b o n cap sz
            simp only [lenV, Option.some.injEq] at hld
            subst hld
            obtain ⟨xb, c, hb, rfl, _⟩ := rep_sl hd
            split at hf
            · rename_i m1 hwr
              cases hf
              obtain ⟨w', k1, k2, k3⟩ := wrs_ok (P := P) cs uc o 0 (xb.s + o) m w h hwr h1 hb (by omega)
              refine ⟨_, w', by rw [hpre _ _ rfl]; dsimp only; rw [k1]; rfl, rfl, k2, k3⟩
            · cases hf
          · simp only [lenV, Option.some.injEq] at hld
            subst hld
            cases hf; cases hd
            refine ⟨.int .i64 0, w, ?_, rfl, h, Step.refl _ _ _⟩
            rw [hpre none 0 rfl]
            simp [goInt]
          · rename_i b o l sz
            simp only [lenV, Option.some.injEq] at hld
            subst hld
            cases hf
            obtain ⟨a, c, rfl⟩ := rep_sle_shape hd
            have hu0 : uc = [] := by
              have : cs = [] := by
                have h0 : Nat.min ls 0 = 0 := Nat.min_zero _
                rw [h0] at hcs
                cases s <;> simp only [firstV] at hcs <;> try (cases hcs; done)
                case str =>
                  obtain ⟨_, hcs⟩ := cond_some hcs
                  cases hcs; rfl
                case nils => cases hcs; rfl
                case sl b o n cap sz =>
                  rw [Nat.zero_mul] at hcs
                  obtain ⟨xb, c, hb, _⟩ := rep_sl hs
                  obtain ⟨us', b1, b2, _⟩ := rd_ok h hcs hb
                  have := reps_length b1
                  exact List.eq_nil_of_length_eq_zero (by omega)
                case sle => obtain ⟨_, hcs⟩ := cond_some hcs; cases hcs; rfl
              subst this
              simp only [reps, Option.some.injEq] at h1; exact h1.symm
            refine ⟨.int .i64 0, w, ?_, rfl, h, Step.refl _ _ _⟩
            rw [hpre _ _ rfl, hu0]
            simp [goInt, storeCells]
          · cases hf
        · cases hf
      · cases hf
    · cases hf
  · cases hf

theorem ereps_filter {p : Nat → Bool} : ∀ {es : List (V × V × Nat)} {l : List MapEntry}, ereps E es = some l → ereps E (es.filter fun e => p e.2.2) = some (l.filter fun e => p e.born)
  | [], l, h => by simp only [ereps, Option.some.injEq] at h; subst h; rfl
  | (k, v, b) :: es, l, h => by
    simp only [ereps, Option.bind_eq_some_iff, Option.map_eq_some_iff] at h
    obtain ⟨ku, hk, vu, hv, r, hr, rfl⟩ := h
    have ih := ereps_filter (p := p) hr
    rw [List.filter_cons, List.filter_cons]
    dsimp only
    cases p b with
    | true => simp only [if_true, ereps, hk, hv, ih, Option.bind_some, Option.map_some]
    | false => simpa using ih
theorem ereps_append : ∀ {es es' : List (V × V × Nat)} {l l' : List MapEntry}, ereps E es = some l → ereps E es' = some l' → ereps E (es ++ es') = some (l ++ l')
  | [], es', l, l', h, h' => by simp only [ereps, Option.some.injEq] at h; subst h; simpa using h'
  | (k, v, b) :: es, es', l, l', h, h' => by
    simp only [ereps, Option.bind_eq_some_iff, Option.map_eq_some_iff] at h
    obtain ⟨ku, hk, vu, hv, r, hr, rfl⟩ := h
    simp only [List.cons_append, ereps, hk, hv, ereps_append hr h', Option.bind_some, Option.map_some]
theorem ereps_get : ∀ {es : List (V × V × Nat)} {l : List MapEntry} {i : Nat} {e : MapEntry}, ereps E es = some l → l[i]? = some e → ∃ k v, es[i]? = some (k, v, e.born) ∧ rep E k = some e.key ∧ rep E v = some e.val
  | [], l, i, e, h, hi => by simp only [ereps, Option.some.injEq] at h; subst h; simp at hi
  | (k, v, b) :: es, l, i, e, h, hi => by
    simp only [ereps, Option.bind_eq_some_iff, Option.map_eq_some_iff] at h
    obtain ⟨ku, hk, vu, hv, r, hr, rfl⟩ := h
    cases i with
    | zero => simp at hi; subst hi; exact ⟨k, v, rfl, hk, hv⟩
    | succ i => simp at hi; simpa using ereps_get hr hi
theorem ereps_all {p : Nat → Bool} : ∀ {es : List (V × V × Nat)} {l : List MapEntry}, ereps E es = some l → l.all (fun e => p e.born) = es.all fun e => p e.2.2
  | [], l, h => by simp only [ereps, Option.some.injEq] at h; subst h; rfl
  | (k, v, b) :: es, l, h => by
    simp only [ereps, Option.bind_eq_some_iff, Option.map_eq_some_iff] at h
    obtain ⟨ku, hk, vu, hv, r, hr, rfl⟩ := h
    simp only [List.all_cons, ereps_all (p := p) hr]

theorem nextOf_mem {b mb since clock : Nat} {seen : List Nat} : ∀ {l : List (Option (V × V × Nat))} {r : List (V × M)}, nextOf m b mb since seen clock l = some r → ∀ {i : Nat},
    (l[i]? = some none → (V.tup [.bool false], m) ∈ r) ∧ (∀ k v born, l[i]? = some (some (k, v, born)) → ∃ m1, m.so b (.iter mb since (seen ++ [born]) clock) = some m1 ∧ (V.tup [.bool true, k, v], m1) ∈ r)
  | [], r, _, i => ⟨fun h => by simp at h, fun _ _ _ h => by simp at h⟩
  | none :: l, r, h, i => by
    simp only [nextOf] at h
    split at h
    · rename_i r' hr'
      cases h
      cases i with
      | zero => exact ⟨fun _ => by simp, fun _ _ _ h => by simp at h⟩
      | succ i =>
        have := nextOf_mem hr' (i := i)
        refine ⟨fun h => List.mem_cons_of_mem _ (this.1 (by simpa using h)), fun k v born h => ?_⟩
        obtain ⟨m1, h1, h2⟩ := this.2 k v born (by simpa using h)
        exact ⟨m1, h1, List.mem_cons_of_mem _ h2⟩
    · cases h
  | some (k0, v0, b0) :: l, r, h, i => by
    simp only [nextOf] at h
    split at h
    · rename_i m1 r' hm1 hr'
      cases h
      cases i with
      | zero =>
        refine ⟨fun h => by simp at h, fun k v born h => ?_⟩
        simp at h
        obtain ⟨rfl, rfl, rfl⟩ := h
        exact ⟨m1, hm1, by simp⟩
      | succ i =>
        have := nextOf_mem hr' (i := i)
        refine ⟨fun h => List.mem_cons_of_mem _ (this.1 (by simpa using h)), fun k v born h => ?_⟩
        obtain ⟨m2, h1, h2⟩ := this.2 k v born (by simpa using h)
        exact ⟨m2, h1, List.mem_cons_of_mem _ h2⟩
    · cases h

theorem cands_rel {O N : List (V × V × Nat)} {O' N' : List MapEntry} (h1 : ereps E O = some O') (h2 : ereps E N = some N') (i : Nat) :
    (((if O'.isEmpty then [none] else []) ++ (O' ++ N').map some)[i]? = some none → ((cond O.isEmpty [none] []) ++ (O ++ N).map some)[i]? = some none) ∧
    (∀ e : MapEntry, ((if O'.isEmpty then [none] else []) ++ (O' ++ N').map some)[i]? = some (some e) → ∃ k v, ((cond O.isEmpty [none] []) ++ (O ++ N).map some)[i]? = some (some (k, v, e.born)) ∧ rep E k = some e.key ∧ rep E v = some e.val) := by
  have hl : O'.isEmpty = O.isEmpty := by
    have := ereps_length h1
    cases O <;> cases O' <;> first | rfl | simp at this
  have h3 := ereps_append h1 h2
  have tail : ∀ j : Nat, (((O' ++ N').map some)[j]? = some none → False) ∧ ∀ e : MapEntry, ((O' ++ N').map some)[j]? = some (some e) → ∃ k v, ((O ++ N).map some)[j]? = some (some (k, v, e.born)) ∧ rep E k = some e.key ∧ rep E v = some e.val := by
    intro j
    rw [List.getElem?_map, List.getElem?_map]
    refine ⟨fun h => ?_, fun e h => ?_⟩
    · cases hh : (O' ++ N')[j]? <;> rw [hh] at h <;> simp at h
    · cases hh : (O' ++ N')[j]? with
      | none => rw [hh] at h; simp at h
      | some e' =>
        rw [hh] at h
        simp at h; subst h
        obtain ⟨k, v, g1, g2, g3⟩ := ereps_get h3 hh
        exact ⟨k, v, by rw [g1]; rfl, g2, g3⟩
  rw [hl]
  cases O.isEmpty with
  | true =>
    rw [if_pos rfl, cond_true]
    cases i with
    | zero => exact ⟨fun _ => rfl, fun e h => by simp at h⟩
    | succ i => exact ⟨fun h => ((tail i).1 (by simpa using h)).elim, fun e h => by simpa using (tail i).2 e (by simpa using h)⟩
  | false =>
    rw [if_neg (by simp), cond_false, List.nil_append, List.nil_append]
    exact ⟨fun h => ((tail i).1 h).elim, fun e h => (tail i).2 e h⟩

theorem run_choose_next (n : Nat) (hn : 0 < n) (w : World) : ∃ i wd, (choose (.mapNext n)).run P w = .ok i wd ∧ i < n ∧ (wd = w ∨ wd = w.drew) := by
  rw [run_choose]
  by_cases h : (Question.mapNext n).forced = true
  · exact ⟨0, w, by rw [if_pos h], hn, .inl rfl⟩
  · exact ⟨_, w.drew, by rw [if_neg h]; rfl, Nat.mod_lt _ hn, .inr rfl⟩

theorem drawnRel (h : Rel E m w) : Rel E m w.drew := ⟨h.dom, h.cap, h.ids, h.obj, h.one, h.ends, h.new, h.solo, h.rt⟩
theorem drawnStep : Step E m w E m w.drew := ⟨E.le_refl, Nat.le_refl _, fun b e _ h => ⟨e, h⟩, fun b x h k => (by rw [h] at k; cases k), fun _ _ _ => rfl, Nat.le_refl _, rfl, rfl, rfl, fun _ _ h => h, fun _ e h => ⟨e, h⟩, [], rfl, fun _ _ h _ _ => ⟨h, rfl⟩⟩

theorem eNext_ok (h : Rel E m w) {ty : TypeId} {x : V} {ux : Value} {outs : List (V × M)} (hx : rep E x = some ux) (hf : eNext m x = some outs) :
    ∃ v m1 u w', (v, m1) ∈ outs ∧ (Instr.next ux false ty).run P w = .ok u w' ∧ rep E v = some u ∧ Rel E m1 w' ∧ Step E m w E m1 w' := by
  unfold eNext at hf
  split at hf
  · rename_i b
    obtain ⟨xb, hb, rfl⟩ := rep_ptr hx
    split at hf
    · rename_i root al hl
      cases hf
      obtain ⟨o, ho, hs0, rfl⟩ := obj_eq h hl hb
      exact ⟨.tup [.bool false], m, .tuple #[.bool false], w, by simp, by rw [hs0]; simp [Instr.next, run_getObj ho (fun _ _ _ => by simp)], rfl, h, Step.refl _ _ _⟩
    · rename_i mb since seen last root al hl
      split at hf
      · rename_i es clock root2 al2 hl2
        obtain ⟨hbad, hf2⟩ := cond_some' hf
        clear hf
        obtain ⟨o, ho, xm, hxm, hs0, rfl⟩ := obj_eq h hl hb
        obtain ⟨o2, ho2, l, hl3, rfl⟩ := obj_eq h hl2 hxm
        -- the model's candidates
        have hleft : ereps E (es.filter fun e => !(seen.any fun n => Nat.beq n e.2.2)) = some (l.filter fun e => !(seen.any fun n => Nat.beq n e.born)) := ereps_filter (p := fun c => !(seen.any fun n => Nat.beq n c)) hl3
        have hold := ereps_filter (p := fun c => Nat.blt c since) hleft
        have hnewf := ereps_filter (p := fun c => Nat.ble since c) hleft
        generalize hO : (es.filter fun e => !(seen.any fun n => Nat.beq n e.2.2)).filter (fun e => Nat.blt e.2.2 since) = O at hold
        generalize hN : (es.filter fun e => !(seen.any fun n => Nat.beq n e.2.2)).filter (fun e => Nat.ble since e.2.2) = N at hnewf
        generalize hO' : (l.filter fun e => !(seen.any fun n => Nat.beq n e.born)).filter (fun e => Nat.blt e.born since) = O' at hold
        generalize hN' : (l.filter fun e => !(seen.any fun n => Nat.beq n e.born)).filter (fun e => Nat.ble since e.born) = N' at hnewf
        have hc : cands es since seen = (cond O.isEmpty [none] []) ++ (O ++ N).map some := by unfold cands; dsimp only; rw [hO, hN]
        have hf3 : nextOf m b mb since seen clock ((cond O.isEmpty [none] []) ++ (O ++ N).map some) = some outs := by rw [← hc]; exact hf2
        have hleft' : l.toArray.filter (fun e => !seen.toArray.contains e.born) = (l.filter fun e => !(seen.any fun n => Nat.beq n e.born)).toArray := by
          rw [List.filter_toArray]
          congr 1
          apply List.filter_congr
          intro e _
          congr 1
          rw [Bool.eq_iff_iff]
          simp
        have hO2 : (l.toArray.filter (fun e => !seen.toArray.contains e.born)).filter (fun e => decide (e.born < since)) = O'.toArray := by
          rw [hleft', List.filter_toArray, ← hO']
          congr 1
          apply List.filter_congr
          intro e _
          rw [Bool.eq_iff_iff]; simp
        have hN2 : (l.toArray.filter (fun e => !seen.toArray.contains e.born)).filter (fun e => decide (e.born ≥ since)) = N'.toArray := by
          rw [hleft', List.filter_toArray, ← hN']
          congr 1
          apply List.filter_congr
          intro e _
          rw [Bool.eq_iff_iff]; simp
        have hcand : ((if O'.toArray.isEmpty then #[none] else #[]) ++ (O'.toArray ++ N'.toArray).map some) = ((if O'.isEmpty then [none] else []) ++ (O' ++ N').map some).toArray := by
          apply Array.ext'
          cases O' <;> simp
        have hbad' : (!seen.toArray.isEmpty && !l.toArray.isEmpty && l.toArray.all (fun e => decide (e.born ≥ last))) = false := by
          have e1 : l.isEmpty = es.isEmpty := by
            have := ereps_length hl3
            cases l <;> cases es <;> first | rfl | simp at this
          have e2 : l.toArray.all (fun e => decide (e.born ≥ last)) = es.all fun e => Nat.ble last e.2.2 := by
            rw [← ereps_all (p := fun c => Nat.ble last c) hl3, List.all_toArray]
            congr 1
            funext e
            rw [Bool.eq_iff_iff]; simp
          rw [e2, ← hbad]
          simp [e1]
        have hpos : 0 < (((if O'.toArray.isEmpty then #[none] else #[]) ++ (O'.toArray ++ N'.toArray).map some)).size := by
          rw [hcand]
          cases O' <;> simp
        obtain ⟨i, wd, hch, hi, hwd⟩ := run_choose_next (P := P) _ hpos w
        have hrd : Rel E m wd ∧ Step E m w E m wd ∧ (∀ r : Nat, wd.heap[r]? = w.heap[r]?) := by
          rcases hwd with rfl | rfl
          · exact ⟨h, Step.refl _ _ _, fun _ => rfl⟩
          · exact ⟨drawnRel h, drawnStep, fun _ => rfl⟩
        have hpre : (Instr.next (.pointer (some ⟨xb.r, xb.s + 0, none⟩)) false ty).run P w = ((match ((if O'.toArray.isEmpty then #[none] else #[]) ++ (O'.toArray ++ N'.toArray).map some)[i]? with
            | some (some e) => (do
              setObj xb.r (.mapIter (some xm.r) since (seen.toArray.push e.born) clock)
              pure (.tuple #[.bool true, e.key, e.val]) : Sem Value)
            | some none => pure (.tuple #[.bool false])
            | none => stuck "Next: no such candidate")).run P wd := by
          rw [hs0]
          simp only [Instr.next, Sem.run_bind, run_getObj ho (fun _ _ _ => by simp), Result.andThen_ok, run_getObj ho2 (fun _ _ _ => by simp)]
          rw [if_neg (by rw [hbad']; simp)]
          simp only [hO2, hN2, Sem.run_bind, hch, Result.andThen_ok]
          generalize ((if O'.toArray.isEmpty = true then #[none] else #[]) ++ (O'.toArray ++ N'.toArray).map some)[i]? = z
          rcases z with _ | _ | e <;> rfl
        have hsel : ((if O'.toArray.isEmpty then #[none] else #[]) ++ (O'.toArray ++ N'.toArray).map some)[i]? = ((if O'.isEmpty then [none] else []) ++ (O' ++ N').map some)[i]? := by
          rw [hcand, List.getElem?_toArray]
        rw [hcand, List.size_toArray] at hi
        obtain ⟨c, hci⟩ : ∃ c, ((if O'.isEmpty then [none] else []) ++ (O' ++ N').map some)[i]? = some c := ⟨_, List.getElem?_eq_getElem hi⟩
        obtain ⟨q1, q2⟩ := cands_rel hold hnewf i
        rw [hpre, hsel, hci]
        cases c with
        | none =>
          have hm := (nextOf_mem hf3 (i := i)).1 (q1 hci)
          exact ⟨_, m, .tuple #[.bool false], wd, hm, rfl, rfl, hrd.1, hrd.2.1⟩
        | some e =>
          obtain ⟨k, v, g1, g2, g3⟩ := q2 e hci
          obtain ⟨m1, hm1, hm2⟩ := (nextOf_mem hf3 (i := i)).2 k v _ g1
          have hod : wd.heap[xb.r]? = some (.mapIter (some xm.r) since seen.toArray last) := by rw [hrd.2.2]; exact ho
          obtain ⟨h6, h7⟩ := hrd.1.setObj (o := .mapIter (some xm.r) since (seen.toArray.push e.born) clock) hm1 hl hb ⟨xm, hxm, hs0, by simp⟩ rfl rfl
          refine ⟨_, m1, .tuple #[.bool true, e.key, e.val], _, hm2, ?_, ?_, h6, hrd.2.1.trans h h7⟩
          · simp only [Sem.run_bind, run_setObj hod (fun _ _ _ => by simp), Result.andThen_ok, Sem.run_pure]
          · simp only [rep, reps, g2, g3, Option.bind_some, Option.map_some]
      · cases hf
    · cases hf
  · cases hf

end
end Go.Proofs.YtdjpjmojmppjkaaGreat.Eng

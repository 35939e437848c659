/- What any operation tells that writes nothing is the model's. -/
import Derived.Test.YtdjpjmojmppjkaaGreatFlt3
import Derived.Control
namespace Go.Proofs.YtdjpjmojmppjkaaGreat.Eng
open Go

section
variable {P : Program} {E : Env} {m : M} {w : World}

theorem evs_ok {ts : T V} {ρ : Operand → Value} (hev : ∀ x v, ev ts x = some v → rep E v = some (ρ x)) : ∀ (l : List Operand) (vs : List V), evs ts l = some vs → reps E vs = some (l.map ρ)
  | [], vs, h => by simp only [evs_nil, Option.some.injEq] at h; subst h; rfl
  | x :: l, vs, h => by
    simp only [evs_cons] at h
    split at h
    · rename_i v hv
      split at h
      · rename_i r hr
        cases h
        exact reps_cons (hev _ _ hv) (evs_ok hev l r hr)
      · cases h
    · cases h

theorem run_equal20 {t : TypeId} {x y : V} {ux uy : Value} {b : Bool} (h : veq P 20 t x y = some b) (hx : rep E x = some ux) (hy : rep E y = some uy) : (Op.equal t ux uy).run P w = .ok b w :=
  veq_ok 20 9980 t x y ux uy b h hx hy

theorem bin_eq {op : BinOp} {t : TypeId} {x y : Operand} {vx vy : V} {ux uy : Value} {out : FO} (hx : rep E vx = some ux) (hy : rep E vy = some uy)
    (hg : (eqGuard op t x y ux uy).run P w = .ok () w) (h1 : binOp .eql t ux uy = do pure (.bool (← Op.equal t ux uy))) (h2 : binOp .neq t ux uy = do pure (.bool (!(← Op.equal t ux uy))))
    (hf : eqRes op (veq P 20 t vx vy) = some out) : ∃ v u, out = .v v ∧ (do eqGuard op t x y ux uy; binOp op t ux uy : Sem Value).run P w = .ok u w ∧ rep E v = some u := by
  cases op <;> simp only [eqRes] at hf <;> try cases hf
  case eql =>
    simp only [Option.map_eq_some_iff] at hf
    obtain ⟨b, hb, rfl⟩ := hf
    refine ⟨_, .bool b, rfl, ?_, rfl⟩
    rw [Sem.run_bind, hg, Result.andThen_ok, h1, Sem.run_bind, run_equal20 hb hx hy]; rfl
  case neq =>
    simp only [Option.map_eq_some_iff] at hf
    obtain ⟨b, hb, rfl⟩ := hf
    refine ⟨_, .bool (!b), rfl, ?_, rfl⟩
    rw [Sem.run_bind, hg, Result.andThen_ok, h2, Sem.run_bind, run_equal20 hb hx hy]; rfl

theorem fBin_ok {op : BinOp} {t : TypeId} {x y : Operand} {vx vy : V} {ux uy : Value} {out : FO} (hx : rep E vx = some ux) (hy : rep E vy = some uy) (hf : fBin P op t vx vy = some out) (w : World) :
    ∃ v u, out = .v v ∧ (do eqGuard op t x y ux uy; binOp op t ux uy : Sem Value).run P w = .ok u w ∧ rep E v = some u := by
  unfold fBin at hf
  split at hf
  · rename_i k a k' b
    cases hx; cases hy
    simp only [Option.map_eq_some_iff] at hf
    obtain ⟨v, hv, rfl⟩ := hf
    obtain ⟨u, hu, hr⟩ := ibin_ok (E := E) P w op k a k' b t v hv
    exact ⟨v, u, rfl, by rw [Sem.run_bind]; cases op <;> simp [eqGuard, hu], hr⟩
  · rename_i s s'
    cases hx; cases hy
    simp only [Option.map_eq_some_iff] at hf
    obtain ⟨v, hv, rfl⟩ := hf
    obtain ⟨u, hu, hr⟩ := sbin_ok (E := E) P w op s s' t v hv
    exact ⟨v, u, rfl, by rw [Sem.run_bind]; cases op <;> simp [eqGuard, hu], hr⟩
  · rename_i xs ys
    have hx0 := hx
    have hy0 := hy
    simp only [rep, Option.map_eq_some_iff] at hx hy
    obtain ⟨us, hus, rfl⟩ := hx
    obtain ⟨vs, hvs, rfl⟩ := hy
    cases hgt : P.eqGuardType P.depth t with
    | true => rw [hgt] at hf; cases hf
    | false =>
      rw [hgt] at hf
      exact bin_eq hx0 hy0 (run_eqGuard_agg w op t x y _ _ hgt) rfl rfl hf
  · rename_i a b
    have hx0 := hx; have hy0 := hy
    cases hx; cases hy
    exact bin_eq hx0 hy0 (by cases op <;> simp [eqGuard]) rfl rfl hf
  · have hx0 := hx; have hy0 := hy
    cases hy
    simp only [rep, Option.bind_eq_some_iff, Option.map_eq_some_iff] at hx
    obtain ⟨_, _, _, _, rfl⟩ := hx
    exact bin_eq hx0 hy0 (by cases op <;> simp [eqGuard]) rfl rfl hf
  · have hx0 := hx; have hy0 := hy
    cases hx; cases hy
    exact bin_eq hx0 hy0 (by cases op <;> simp [eqGuard]) rfl rfl hf
  · have hx0 := hx; have hy0 := hy
    cases hy
    obtain ⟨_, _, rfl⟩ := rep_ptr hx
    exact bin_eq hx0 hy0 (by cases op <;> simp [eqGuard]) rfl rfl hf
  · have hx0 := hx; have hy0 := hy
    cases hx; cases hy
    exact bin_eq hx0 hy0 (by cases op <;> simp [eqGuard]) rfl rfl hf
  · have hx0 := hx; have hy0 := hy
    cases hy
    obtain ⟨_, _, rfl⟩ := rep_sl_shape hx
    exact bin_eq hx0 hy0 (by cases op <;> simp [eqGuard]) rfl rfl hf
  · have hx0 := hx; have hy0 := hy
    cases hx; cases hy
    exact bin_eq hx0 hy0 (by cases op <;> simp [eqGuard]) rfl rfl hf
  · have hx0 := hx; have hy0 := hy
    cases hy
    simp only [rep, Option.map_eq_some_iff] at hx
    obtain ⟨_, _, rfl⟩ := hx
    exact bin_eq hx0 hy0 (by cases op <;> simp [eqGuard]) rfl rfl hf
  · have hx0 := hx; have hy0 := hy
    cases hx; cases hy
    exact bin_eq hx0 hy0 (by cases op <;> simp [eqGuard]) rfl rfl hf
  · cases hf

theorem ereps_find {p : Nat → Bool} : ∀ {es : List (V × V × Nat)} {l : List MapEntry} {k v : V} {b : Nat}, ereps E es = some l → es.find? (fun e => p e.2.2) = some (k, v, b) →
    ∃ e, l.find? (fun e => p e.born) = some e ∧ rep E k = some e.key ∧ rep E v = some e.val
  | [], l, k, v, b, h, hf => by simp at hf
  | (k', v', b') :: es, l, k, v, b, h, hf => by
    simp only [ereps, Option.bind_eq_some_iff, Option.map_eq_some_iff] at h
    obtain ⟨ku, hku, vu, hvu, r, hr, rfl⟩ := h
    rw [List.find?_cons] at hf
    rw [List.find?_cons]
    dsimp only at hf ⊢
    cases hp : p b' with
    | true =>
      rw [hp] at hf
      simp only [Option.some.injEq, Prod.mk.injEq] at hf
      obtain ⟨rfl, rfl, rfl⟩ := hf
      exact ⟨_, rfl, hku, hvu⟩
    | false =>
      rw [hp] at hf
      exact ereps_find hr hf

theorem fEntry_ok (h : Rel E m w) {x : V} {ux : Value} {out : FO} (hx : rep E x = some ux) (hf : fEntry m x = some out) : ∃ v u, out = .v v ∧ (Instr.entry ux).run P w = .ok u w ∧ rep E v = some u := by
  unfold fEntry at hf
  split at hf
  · rename_i b
    obtain ⟨xb, hb, rfl⟩ := rep_ptr hx
    split at hf
    · rename_i mb since seen st root al hl
      split at hf
      · rename_i stamp es clock root2 al2 hst hl2
        obtain ⟨hc, hf2⟩ := cond_some hf
        clear hf
        have hc' : clock = st := Nat.eq_of_beq_eq_true hc
        subst hc'
        split at hf2
        · rename_i k v b' hfi
          cases hf2
          obtain ⟨o, ho, xm, hxm, hs0, rfl⟩ := obj_eq h hl hb
          obtain ⟨o2, ho2, l, hl3, rfl⟩ := obj_eq h hl2 hxm
          obtain ⟨e, he, hk, hv⟩ := ereps_find (p := fun n => Nat.beq n stamp) hl3 hfi
          have he' : l.toArray.find? (fun e => e.born == stamp) = some e := by
            rw [List.find?_toArray, ← he]
            congr 1
            funext e
            rw [Bool.eq_iff_iff]
            simp
          refine ⟨_, .tuple #[e.key, e.val], rfl, ?_, by simp only [rep, reps, hk, hv, Option.bind_some, Option.map_some]⟩
          have hback : seen.toArray.back? = some stamp := by simpa using hst
          rw [hs0]
          simp [Instr.entry, run_getObj ho (fun _ _ _ => by simp), hback, run_getObj ho2 (fun _ _ _ => by simp), he']
        · cases hf2
      · cases hf
    · cases hf
  · cases hf

theorem fRange_ok (h : Rel E m w) {t : TypeId} {x : V} {ux : Value} {out : FO} (hx : rep E x = some ux) (hf : fRange P t m x = some out) :
    ∃ ao k ob u xb, out = .a ao k ∧ (Instr.range t ux).run P w = .ok u (w.alloc ob) ∧ xb.r = w.heap.size ∧ orep E xb ao ob ∧ ∀ (F : Env) id, F id = some xb → rep F (k id) = some u := by
  unfold fRange at hf
  split at hf
  · rename_i ek ev _ _ _ ht
    split at hf
    · cases hf; cases hx
      refine ⟨_, _, .mapIter none 0 #[] 0, .pointer (some ⟨w.heap.size, 0, none⟩), ⟨w.heap.size, 0, 0, .nilIface⟩, rfl, by simp [Instr.range, run_underlying (tyOk ht).u], rfl, ⟨rfl, rfl⟩, fun F id hF => ?_⟩
      simp only [rep, hF, Option.map_some]
    · rename_i mb
      simp only [rep, Option.map_eq_some_iff] at hx
      obtain ⟨xm, hxm, rfl⟩ := hx
      split at hf
      · rename_i es clock root al hl
        cases hf
        obtain ⟨o, ho, l, hl2, rfl⟩ := obj_eq h hl hxm
        refine ⟨_, _, .mapIter (some xm.r) clock #[] clock, .pointer (some ⟨w.heap.size, 0, none⟩), ⟨w.heap.size, 0, 0, .nilIface⟩, rfl, by simp [Instr.range, run_underlying (tyOk ht).u, run_getObj ho (fun _ _ _ => by simp)], rfl, ⟨xm, hxm, rfl, rfl⟩, fun F id hF => ?_⟩
        simp only [rep, hF, Option.map_some]
      · cases hf
    · cases hf
  · cases hf

theorem fBuiltin_ok (h : Rel E m w) {b : Builtin} {ats : Array TypeId} {ty : TypeId} {cs : Array Bool} {args : List V} {us : List Value} {out : FO} (hx : reps E args = some us) (hf : fBuiltin P m b ats.toList args = some out) :
    ∃ v u, out = .v v ∧ (builtin b ats ty cs us.toArray).run P w = .ok (.value u) w ∧ rep E v = some u := by
  unfold fBuiltin at hf
  split at hf
  · rename_i t rest x hats
    obtain ⟨u, us', rfl, hu, hus⟩ := reps_inv hx
    simp only [reps, Option.some.injEq] at hus; subst hus
    have ht : ats[0]? = some t := by rw [← Array.getElem?_toList, hats]; rfl
    obtain ⟨v, u', h1, h2, h3⟩ := fLen_ok (P := P) h (ty := ty) ht hu hf
    exact ⟨v, u', h1, by simp only [builtin, Sem.run_bind]; rw [show ([u].toArray : Array Value) = #[u] from rfl, h2]; rfl, h3⟩
  · rename_i ats' x l
    simp only [Option.map_eq_some_iff] at hf
    obtain ⟨v, hv, rfl⟩ := hf
    obtain ⟨u, us', rfl, hu, hus⟩ := reps_inv hx
    obtain ⟨k, n, rfl⟩ : ∃ k n, x = .int k n := by cases x <;> first | exact ⟨_, _, rfl⟩ | (cases l <;> cases hv; done)
    cases hu
    obtain ⟨u', h1, h2⟩ := max_ok (P := P) (w := w) l us' k n v hus hv
    exact ⟨v, u', rfl, by simp only [builtin, Sem.run_bind, Builtin.max_]; rw [h1]; rfl, h2⟩
  · rename_i ats' x l
    simp only [Option.map_eq_some_iff] at hf
    obtain ⟨v, hv, rfl⟩ := hf
    obtain ⟨u, us', rfl, hu, hus⟩ := reps_inv hx
    obtain ⟨k, n, rfl⟩ : ∃ k n, x = .int k n := by cases x <;> first | exact ⟨_, _, rfl⟩ | (cases l <;> cases hv; done)
    cases hu
    obtain ⟨u', h1, h2⟩ := min_ok (P := P) (w := w) l us' k n v hus hv
    exact ⟨v, u', rfl, by simp only [builtin, Sem.run_bind, Builtin.min_]; rw [h1]; rfl, h2⟩
  · cases hf

/-- What an operation without writes tells. -/
structure Tells (P : Program) (E : Env) (w : World) (s : Sem Next) (out : FO) : Prop where
  v : ∀ v, out = .v v → ∃ u, s.run P w = .ok (.value u) w ∧ rep E v = some u
  b : out = .b → ∃ bb, s.run P w = .ok (.value (.bool bb)) w
  a : ∀ ao k, out = .a ao k → ∃ ob u xb w1, s.run P w = .ok (.value u) w1 ∧ New w w1 ob ∧ xb.r = w.heap.size ∧ orep E xb ao ob ∧ ∀ (F : Env) id, F id = some xb → rep F (k id) = some u

theorem tells_v {s : Sem Value} {out : FO} (h : ∃ v u, out = .v v ∧ s.run P w = .ok u w ∧ rep E v = some u) : Tells P E w (do pure (.value (← s))) out := by
  obtain ⟨v, u, rfl, h1, h2⟩ := h
  exact ⟨fun v' hv => by cases hv; exact ⟨u, by rw [Sem.run_bind, h1]; rfl, h2⟩, fun hh => (by cases hh), fun _ _ hh => by cases hh⟩
theorem tells_a {s : Sem Value} {out : FO} (h : ∃ ao k ob u xb w1, out = .a ao k ∧ s.run P w = .ok u w1 ∧ New w w1 ob ∧ xb.r = w.heap.size ∧ orep E xb ao ob ∧ ∀ (F : Env) id, F id = some xb → rep F (k id) = some u) : Tells P E w (do pure (.value (← s))) out := by
  obtain ⟨ao, k, ob, u, xb, w1, rfl, h1, h2, h3, h4, h5⟩ := h
  exact ⟨fun v' hv => (by cases hv), fun hh => (by cases hh), fun ao' k' hh => by cases hh; exact ⟨ob, u, xb, w1, by rw [Sem.run_bind, h1]; rfl, h2, h3, h4, h5⟩⟩
theorem tells_a' {s : Sem Value} {out : FO} (h : ∃ ao k ob u xb, out = .a ao k ∧ s.run P w = .ok u (w.alloc ob) ∧ xb.r = w.heap.size ∧ orep E xb ao ob ∧ ∀ (F : Env) id, F id = some xb → rep F (k id) = some u) : Tells P E w (do pure (.value (← s))) out := by
  obtain ⟨ao, k, ob, u, xb, h1, h2, h3, h4, h5⟩ := h
  exact tells_a ⟨ao, k, ob, u, xb, _, h1, h2, New.alloc _ _, h3, h4, h5⟩

theorem new_cells {cs : List V} {us : Array Value} (h : reps E cs = some us.toList) (t : TypeId) (w : World) :
    ∃ xb : EB, xb.r = w.heap.size ∧ orep E xb (.cells cs) (.cells us t) ∧ ∀ (F : Env) id, F id = some xb → rep F (.ptr id 0) = some (.pointer (some ⟨w.heap.size, 0, none⟩)) := by
  refine ⟨⟨w.heap.size, us.toList.length, 0, .nilIface⟩, rfl, ?_, fun F id hF => by simp only [rep, hF, Option.map_some]⟩
  have := orep_new h w.heap.size t
  rwa [Array.toArray_toList] at this

theorem evo_ok {ts : T V} {ρ : Operand → Value} (hev : ∀ x v, ev ts x = some v → rep E v = some (ρ x)) {x : Option Operand} {v : Option V} (h : evo ts x = some v) : orepV E v (x.map ρ) := by
  cases x with
  | none => simp only [evo, Option.some.injEq] at h; subst h; trivial
  | some x =>
    simp only [evo] at h
    split at h
    · rename_i v' hv
      cases h
      exact hev _ _ hv
    · cases h

theorem cmp_some {op : BinOp} {k k' : IntKind} {x y : Int} (h : (cmpB op && keq k k') = true) : ∃ bb, ibin op k x k' y = some (.bool bb) := by
  simp only [Bool.and_eq_true] at h
  cases op <;> simp only [cmpB, Bool.false_eq_true, false_and] at h <;> (rw [ibin_eq]; unfold ibin0; dsimp only; rw [h.2]; exact ⟨_, rfl⟩)
theorem fBinS_ok {op : BinOp} {t : TypeId} {x y : Operand} {vx vy : V} {ux uy : Value} {out : FO} (hx : rep E vx = some ux) (hy : rep E vy = some uy) (hf : fBinS P op t vx vy = some out) (w : World) :
    Tells P E w (do pure (.value (← (do eqGuard op t x y ux uy; binOp op t ux uy : Sem Value)))) out := by
  have ints : ∀ {k k' : IntKind} {a b : Int}, ux = .int k a → uy = .int k' b → cond (cmpB op && keq k k') (some FO.b) none = some out → Tells P E w (do pure (.value (← (do eqGuard op t x y ux uy; binOp op t ux uy : Sem Value)))) out := by
    intro k k' a b h1 h2 h3
    subst h1; subst h2
    obtain ⟨h4, h5⟩ := cond_some h3
    cases h5
    obtain ⟨bb, hbb⟩ := cmp_some (x := a) (y := b) h4
    obtain ⟨u, hu, hr⟩ := ibin_ok (E := E) P w op k a k' b t _ hbb
    cases hr
    refine ⟨fun v hv => (by cases hv), fun _ => ⟨bb, ?_⟩, fun _ _ hh => (by cases hh)⟩
    have : (do eqGuard op t x y (.int k a) (.int k' b); binOp op t (.int k a) (.int k' b) : Sem Value).run P w = .ok (.bool bb) w := by
      rw [Sem.run_bind]; cases op <;> simp [eqGuard, hu]
    rw [Sem.run_bind, this]; rfl
  unfold fBinS at hf
  split at hf
  · rename_i h1 h2
    obtain rfl := numV_int h1
    obtain rfl := numV_int h2
    refine tells_v (fBin_ok (P := P) (op := op) (t := t) hx hy ?_ w)
    show (ibin op _ _ _ _).map FO.v = _
    split at hf
    · rename_i r hr; rw [hr]; exact hf
    · cases hf
  · rename_i h1 h2
    obtain rfl := numV_int h2
    obtain ⟨n, rfl⟩ := numV_sym h1 hx
    cases hy; exact ints rfl rfl hf
  · rename_i h1 h2
    obtain rfl := numV_int h1
    obtain ⟨n, rfl⟩ := numV_sym h2 hy
    cases hx; exact ints rfl rfl hf
  · rename_i h1 h2
    obtain ⟨n, rfl⟩ := numV_sym h1 hx
    obtain ⟨n', rfl⟩ := numV_sym h2 hy
    exact ints rfl rfl hf
  · exact tells_v (fBin_ok hx hy hf w)

theorem fSliceM_ok (h : Rel E m w) {t : TypeId} {x : V} {ux : Value} {lo hi mx : Option V} {ulo uhi umx : Option Value} {out : FO} (hx : rep E x = some ux) (r1 : orepV E lo ulo) (r2 : orepV E hi uhi) (r3 : orepV E mx umx)
    (hf : fSliceM P t m x lo hi mx = some out) : ∃ v u, out = .v v ∧ (Instr.sliceAt t ux ulo uhi umx).run P w = .ok u w ∧ rep E v = some u := by
  unfold fSliceM at hf
  split at hf
  · rename_i b o len sz k hh
    cases hlt : Nat.blt len hh with
    | false => rw [hlt] at hf; exact fSlice_ok hx r1 r2 r3 hf w
    | true =>
      rw [hlt] at hf
      dsimp only [cond_true] at hf
      split at hf
      case h_2 => cases hf
      rename_i c0 root al hl
      obtain ⟨hk, hf⟩ := cond_some hf
      obtain ⟨xb, c', hb, rfl, _, hc⟩ := rep_sl hx
      obtain ⟨hroom, rfl⟩ := hc rfl
      obtain ⟨ob, ho, hr⟩ := obj_eq h hl hb
      obtain ⟨c, ty, fz, us, rfl, hsz, hlen, _⟩ := hr
      have hkn := Nat.le_of_ble_eq_true hk
      have hx' : rep E (.sl b o hh none sz) = some (.slice (some ⟨xb.r, xb.s + o, none⟩) hh ((xb.m - (xb.s + o)) / sz)) := by
        simp only [rep, hb, Option.bind_some]
        rw [if_pos (by omega)]
      obtain ⟨v, u, hv, hrun, hu⟩ := fSlice_ok hx' r1 r2 r3 hf w
      refine ⟨v, u, hv, ?_, hu⟩
      rw [← hrun]
      have ht : ∃ e, P.underlying t = some (.slice e) := by
        unfold fSlice at hf
        split at hf
        · cases hf
        · cases hf
        · rename_i e _ _ _ ht; exact ⟨e, (tyOk ht).u⟩
        · cases hf
      obtain ⟨e, ht⟩ := ht
      cases uhi with
      | none => exact r2.elim
      | some uh =>
        simp only [Instr.sliceAt, Sem.run_bind, run_underlying ht, Result.andThen_ok, Instr.slice]
        cases umx <;> rfl
  · exact fSlice_ok hx r1 r2 r3 hf w

theorem fAssert_ok {t xt : TypeId} {x : V} {ux : Value} {out : FO} (hx : rep E x = some ux) (hf : fAssert P t x = some out) (w : World) : ∃ v u, out = .v v ∧ (Instr.typeAssert ux xt t false).run P w = .ok u w ∧ rep E v = some u := by
  unfold fAssert at hf
  split at hf
  case h_2 => cases hf
  rename_i t' v
  obtain ⟨ht, hf⟩ := cond_some hf
  have ht' : t' = t := Nat.eq_of_beq_eq_true ht
  subst ht'
  simp only [rep, Option.map_eq_some_iff] at hx
  obtain ⟨u, hu, rfl⟩ := hx
  split at hf
  case h_2 => cases hf
  rename_i y hy
  have hd := (tyOk hy).u
  split at hf
  · cases hf
  · rename_i hni
    cases hf
    refine ⟨v, u, rfl, ?_, hu⟩
    cases hyu : y.u with
    | interface ms => exact absurd hyu (hni ms)
    | _ => rw [hyu] at hd; simp [Instr.typeAssert, run_underlying hd]

theorem flt_ok (h : Rel E m w) {ts : T V} {ρ : Operand → Value} (hev : ∀ x v, ev ts x = some v → rep E v = some (ρ x)) (o : Oper) {out : FO} (hf : flt P ts m o.op = some out) : Tells P E w (execOp ρ o) out := by
  obtain ⟨dst, op, ty, pos, after, guard⟩ := o
  dsimp only at hf
  have mv : ∀ x, (ev ts x).map FO.v = some out → Tells P E w (pure (.value (ρ x))) out := by
    intro x hx
    simp only [Option.map_eq_some_iff] at hx
    obtain ⟨v, hv, rfl⟩ := hx
    exact ⟨fun v' hv' => by cases hv'; exact ⟨_, rfl, hev _ _ hv⟩, fun hh => (by cases hh), fun _ _ hh => by cases hh⟩
  cases op <;> simp only [flt_eq, flt0] at hf <;> try cases hf
  case move x => exact mv x hf
  case assign x => exact mv x hf
  case pick c a b =>
    split at hf
    · rename_i hc
      have := hev _ _ hc
      have hρ : ρ c = .bool true := by simp only [rep, Option.some.injEq] at this; exact this.symm
      have := mv a hf
      simpa [execOp, hρ, asBool] using this
    · rename_i hc
      have := hev _ _ hc
      have hρ : ρ c = .bool false := by simp only [rep, Option.some.injEq] at this; exact this.symm
      have := mv b hf
      simpa [execOp, hρ, asBool] using this
    · cases hf
  case alloc t =>
    split at hf
    · rename_i z ht
      cases hf
      obtain ⟨Z, hZ, hzr⟩ := zero_cells (tyOk ht) rfl w
      obtain ⟨xb, h1, h2, h3⟩ := new_cells (hzr E) t w
      exact tells_a' ⟨_, _, _, .pointer (some ⟨w.heap.size, 0, none⟩), xb, rfl, by simp [Instr.alloc, hZ, newVar, newRow], h1, h2, h3⟩
    · cases hf
  case box t x =>
    simp only [Option.map_eq_some_iff] at hf
    obtain ⟨v, hv, rfl⟩ := hf
    obtain ⟨xb, h1, h2, h3⟩ := new_cells (cellsV_rep (hev _ _ hv)) t w
    exact tells_a' ⟨_, _, _, .pointer (some ⟨w.heap.size, 0, none⟩), xb, rfl, by simp [Instr.box, newVar, newRow], h1, h2, h3⟩
  case build t parts =>
    split at hf
    · rename_i l hl
      have hp := preps_of hev parts.toList l hl
      have := fBuild_ok (P := P) hp hf w
      refine tells_v ?_
      obtain ⟨v, u, h1, h2, h3⟩ := this
      refine ⟨v, u, h1, ?_, h3⟩
      rw [← h2]; congr 2
      apply Array.ext'; simp
    · cases hf
  case buildSlice t n parts =>
    split at hf
    · rename_i l hl
      have hp := preps_of hev parts.toList l hl
      have := fBuildSlice_ok (P := P) hp hf w
      refine tells_a' ?_
      obtain ⟨ao, k, ob, u, xb, h1, h2, h3⟩ := this
      refine ⟨ao, k, ob, u, xb, h1, ?_, h3⟩
      rw [← h2]; congr 2
      apply Array.ext'; simp
    · cases hf
  case load t x =>
    split at hf
    · rename_i v hv; exact tells_v (fLoad_ok h (hev _ _ hv) hf)
    · cases hf
  case nilCheck x =>
    split at hf
    · rename_i v hv
      obtain ⟨v', rfl, hr, hsh⟩ := fNil_ok (hev _ _ hv) hf
      have key : (execOp ρ { dst := dst, op := .nilCheck x, type := ty, pos := pos, after := after, guard := guard }).run P w = .ok (.value (ρ x)) w := by
        rcases hsh with ⟨a, e⟩ | ⟨t, u, e⟩ | ⟨f, xs, ys, e⟩ | ⟨f, xs, ys, e⟩ | ⟨r, e⟩ | ⟨a, n, c, e⟩ <;> simp [execOp, e]
      exact ⟨fun v2 h2 => (by cases h2; exact ⟨ρ x, key, hr⟩), fun hh => (by cases hh), fun _ _ hh => (by cases hh)⟩
    · cases hf
  case binOp op t x y yt =>
    split at hf
    · rename_i va vb hva hvb
      exact fBinS_ok (hev _ _ hva) (hev _ _ hvb) hf w
    · cases hf
  case unOp op t x =>
    split at hf
    · rename_i v hv; exact tells_v (fUn_ok (hev _ _ hv) hf w)
    · cases hf
  case convert s d x =>
    split at hf
    · rename_i v hv
      rcases fConvert_ok h (hev _ _ hv) hf with h1 | ⟨a, k, ob, u, xb, w1, h1, h2, h3, h4, h5, h6⟩
      · exact tells_v h1
      · exact tells_a ⟨a, k, ob, u, xb, w1, h1, h2, h3, h4, h5, h6⟩
    · cases hf
  case makeInterface t x =>
    split at hf
    · rename_i v hv
      refine tells_v ?_
      unfold fIface at hf
      split at hf
      · rename_i y hy
        have hu := (tyOk hy).u
        split at hf
        · cases hf
        · rename_i hne
          cases hf
          refine ⟨_, .iface t (ρ x), rfl, ?_, by simp only [rep, hev _ _ hv, Option.map_some]⟩
          simp only [Instr.makeInterface, Sem.run_bind, run_underlying hu, Result.andThen_ok]
          rfl
      · cases hf
    · cases hf
  case makeFunc f first cap =>
    split at hf
    · rename_i va vb hva hvb
      cases hf
      have h1 := evs_ok hev _ _ hva
      have h2 := evs_ok hev _ _ hvb
      refine tells_v ⟨_, .func f (first.map ρ) (cap.map ρ), rfl, by simp [Instr.makeFunc], ?_⟩
      simp only [rep, h1, h2, Option.bind_some, Option.map_some]
      congr 2 <;> (apply Array.ext'; simp)
    · cases hf
  case makeMap t r =>
    cases r with
    | some _ => cases hf
    | none =>
      cases hf
      refine tells_a' ⟨_, _, .map #[] 0, .map (some w.heap.size), ⟨w.heap.size, 0, 0, .nilIface⟩, rfl, by simp [Instr.makeMap], rfl, ⟨[], rfl, rfl⟩, fun F id hF => by simp only [rep, hF, Option.map_some]⟩
  case makeSlice t l c =>
    split at hf
    · rename_i va vb hva hvb
      exact tells_a' (fMakeSlice_ok (hev _ _ hva) (hev _ _ hvb) hf w)
    · cases hf
  case slice t x lo hi mx =>
    split at hf
    · rename_i v a b c hv ha hb hc
      exact tells_v (fSliceM_ok h (hev _ _ hv) (evo_ok hev ha) (evo_ok hev hb) (evo_ok hev hc) hf)
    · cases hf
  case fieldAddr s x f =>
    split at hf
    · rename_i v hv; exact tells_v (fFieldAddr_ok (hev _ _ hv) hf w)
    · cases hf
  case field s x f =>
    split at hf
    · rename_i v hv; exact tells_v (fField_ok (hev _ _ hv) hf w)
    · cases hf
  case indexAddr t x i =>
    split at hf
    · rename_i va vb hva hvb; exact tells_v (fIndexAddr_ok (hev _ _ hva) (hev _ _ hvb) hf w)
    · cases hf
  case index t x i =>
    split at hf
    · rename_i va vb hva hvb; exact tells_v (fIndex_ok (hev _ _ hva) (hev _ _ hvb) hf w)
    · cases hf
  case lookup t x k ok =>
    split at hf
    · rename_i va vb hva hvb; exact tells_v (fLookup_ok h (hev _ _ hva) (hev _ _ hvb) hf)
    · cases hf
  case range t x =>
    split at hf
    · rename_i v hv; exact tells_a' (fRange_ok h (hev _ _ hv) hf)
    · cases hf
  case entry x =>
    split at hf
    · rename_i v hv; exact tells_v (fEntry_ok h (hev _ _ hv) hf)
    · cases hf
  case typeAssert x xt t ok =>
    cases ok with
    | true => cases hf
    | false =>
    dsimp only at hf
    split at hf
    · rename_i v hv; exact tells_v (fAssert_ok (hev _ _ hv) hf w)
    · cases hf
  case extract x i =>
    split at hf
    · rename_i v hv
      refine tells_v ?_
      have hr := hev _ _ hv
      cases v <;> simp only [fExtract] at hf <;> try cases hf
      rename_i vs
      simp only [rep, Option.map_eq_some_iff] at hr
      obtain ⟨us, hus, he⟩ := hr
      simp only [Option.map_eq_some_iff] at hf
      obtain ⟨v, hv2, rfl⟩ := hf
      rw [nth_eq] at hv2
      obtain ⟨u, hu, hru⟩ := reps_get hus hv2
      exact ⟨v, u, rfl, by rw [← he]; simp [Instr.extract, hu], hru⟩
    · cases hf
  case call c =>
    obtain ⟨callee, args, ats⟩ := c
    cases callee with
    | value f => cases hf
    | invoke r n => cases hf
    | builtin b =>
      dsimp only at hf
      split at hf
      · rename_i l hl
        have hr := evs_ok hev _ _ hl
        obtain ⟨v, u, rfl, h1, h2⟩ := fBuiltin_ok (P := P) h (ty := ty) (cs := args.map fun | .const _ => true | _ => false) hr hf
        have key : (execOp ρ { dst := dst, op := .call ⟨.builtin b, args, ats⟩, type := ty, pos := pos, after := after, guard := guard }).run P w = .ok (.value u) w := by
          rw [← h1]
          simp only [execOp, resolve, Sem.run_bind, Sem.run_pure, Result.andThen_ok, invoke]
          congr 2
          apply Array.ext'; simp
        exact ⟨fun v' hv' => (by cases hv'; exact ⟨u, key, h2⟩), fun hh => (by cases hh), fun _ _ hh => (by cases hh)⟩
      · cases hf

end
end Go.Proofs.YtdjpjmojmppjkaaGreat.Eng

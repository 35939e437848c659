/- Calls of function values, and rounds. -/
import Derived.Test.YtdjpjmojmppjkaaGreatExt
namespace Go.Proofs.YtdjpjmojmppjkaaGreat.Eng
open Go

theorem mapO_mem {α β : Type} {f : α → Option β} : ∀ {l : List α} {r : List β}, mapO f l = some r → ∀ x ∈ l, ∃ y, f x = some y ∧ y ∈ r
  | [], _, _, x, hx => by simp at hx
  | a :: l, r, h, x, hx => by
    have h' : (match f a with | some y => (match mapO f l with | some r => some (y :: r) | none => none) | none => none) = some r := h
    split at h'
    · rename_i y hy
      split at h'
      · rename_i r' hr'
        cases h'
        rcases List.mem_cons.1 hx with rfl | hx
        · exact ⟨y, hy, by simp⟩
        · obtain ⟨z, hz, hm⟩ := mapO_mem hr' x hx
          exact ⟨z, hz, by simp [hm]⟩
      · cases h'
    · cases h'
theorem joinO_mem {α β : Type} {f : α → Option (List β)} : ∀ {l : List α} {r : List β}, joinO f l = some r → ∀ x ∈ l, ∃ y, f x = some y ∧ ∀ z ∈ y, z ∈ r
  | [], _, _, x, hx => by simp at hx
  | a :: l, r, h, x, hx => by
    have h' : (match f a with | some y => (match joinO f l with | some r => some (apR y r) | none => none) | none => none) = some r := h
    split at h'
    · rename_i y hy
      split at h'
      · rename_i r' hr'
        cases h'
        rcases List.mem_cons.1 hx with rfl | hx
        · exact ⟨y, hy, fun z hz => by rw [apR_eq]; simp [hz]⟩
        · obtain ⟨z, hz, hm⟩ := joinO_mem hr' x hx
          exact ⟨z, hz, fun q hq => by rw [apR_eq]; simp [hm q hq]⟩
      · cases h'
    · cases h'

section
variable {P : Program} {E E' : Env} {m m' : M} {w w' : World} {s s' : St} {a : Act}

theorem setAll_ok {nt : Nat} : ∀ (ps : List Tmp) (l : List V) (us : List Value) (ts ts' : T V) (tm : Array Value), trep E ts nt tm → setAll nt ps l ts = some ts' → reps E l = some us →
    us.length = ps.length ∧ trep E ts' nt ((ps.zip us).foldl (fun tmps (p : Tmp × Value) => tmps.setIfInBounds p.1 p.2) tm)
  | [], [], us, ts, ts', tm, h, hs, hr => by
    simp only [reps, Option.some.injEq] at hr; subst hr
    cases hs; exact ⟨rfl, h⟩
  | [], _ :: _, _, _, _, _, _, hs, _ => by cases hs
  | _ :: _, [], _, _, _, _, _, hs, _ => by cases hs
  | t :: ps, v :: l, us, ts, ts', tm, h, hs, hr => by
    obtain ⟨u, us', rfl, hu, hus⟩ := reps_inv hr
    have hs' : cond (Nat.blt t nt) (setAll nt ps l (ts.set v DT t)) none = some ts' := hs
    obtain ⟨h1, h2⟩ := cond_some hs'
    have hlt : t < nt := by simpa using h1
    obtain ⟨k1, k2⟩ := setAll_ok ps l us' _ ts' _ (trep_set h hlt hu) h2 hus
    exact ⟨by simp [k1], k2⟩

/-- A called operation is done. -/
def VGoes (P : Program) (E : Env) (m : M) (w : World) (outs : List (V × M)) (fn : FuncId) (rnd : Option Nat) (ops : Array Oper) (i : Nat) (o : Oper) (a : Act) : Prop :=
  ∃ v m1 E' w' u, (v, m1) ∈ outs ∧ OpGoes P fn rnd ops i o a w u w' ∧ rep E' v = some u ∧ Rel E' m1 w' ∧ Step E m w E' m1 w'

theorem so_look {m m' : M} {b : Nat} {a : AO} (h : m.so b a = some m') : ∃ e, look m b = some e := by
  unfold M.so at h
  cases hl : look m b with
  | none => rw [hl] at h; cases h
  | some e => exact ⟨e, rfl⟩

theorem zip_foldl (ps : Array Tmp) (us : List Value) (tm : Array Value) : (ps.zip us.toArray).foldl (fun tmps (p : Tmp × Value) => tmps.setIfInBounds p.1 p.2) tm = (ps.toList.zip us).foldl (fun tmps (p : Tmp × Value) => tmps.setIfInBounds p.1 p.2) tm := by
  rw [← Array.foldl_toList, Array.toList_zip]

theorem round_ok {I : Env → M → World → Prop} (hI : Keeps I) {ih : Code → St → R} (hih : ExOk P I ih) {l : Nat} {args : List V} {us : List Value} {outs : List (V × M)} (h : Rel E m w) (hi : I E m w) (hr : round ih l args m = some outs) (hu : reps E args = some us) {x : EB} (hx : E l = some x)
    {fn : FuncId} {rnd : Option Nat} {ops : Array Oper} {i : Nat} {o : Oper} (ho : ops[i]? = some o) (hw : Region.wanted o (yielded ops a.tmps) = true) (hd : ∀ c, o.op ≠ .defer c)
    (he : (execOp a.eval o).run P w = (Instr.yield x.r us.toArray).run P w) : VGoes P E m w outs fn rnd ops i o a := by
  unfold round at hr
  split at hr
  case h_2 => cases hr
  rename_i st pe fn0 ts nt ps asg body df root al hl
  split at hr
  case h_2 => cases hr
  rename_i ts' hts
  split at hr
  case h_2 => cases hr
  rename_i outs1 h1
  obtain ⟨ob, hob, hrp⟩ := obj_eq h hl hx
  obtain ⟨tm, xd, ht, hxd, rfl⟩ := hrp
  obtain ⟨hlen, ht'⟩ := setAll_ok ps.toList args us ts ts' tm ht hts hu
  have hy := run_yield (P := P) (args := us.toArray) hob (by simpa using hlen)
  rw [zip_foldl] at hy
  have s0 := fun rest k cs => st_op_round (fn := fn) (rnd := rnd) (k := k) (cs := cs) (rest := rest) ho hw hd (he.trans hy)
  obtain ⟨ex1, s1, E1, a1, w1, hm1, hs1, hstep1, hfn1, hrnd1, harr1⟩ := hih asg ⟨fn0, some l, ts', nt, [], m⟩ outs1 E ⟨_, []⟩ w (some x.r) h1 ⟨h, ht', trivial⟩ hi (by simp)
  obtain ⟨r2, h2, hr2⟩ := joinO_mem hr _ hm1
  unfold midRd at h2
  cases ex1 with
  | exit id => cases h2
  | ret => cases h2
  | normal =>
  dsimp only at h2 hfn1 hrnd1
  split at h2
  case h_2 => cases h2
  rename_i pe1 fn1 ts1 nt1 ps1 asg1 body1 df1 root1 al1 hl1
  split at h2
  case h_2 => cases h2
  rename_i m2 hm2
  split at h2
  case h_2 => cases h2
  rename_i outs2 h3
  have hx1 : E1 l = some x := hstep1.le l x hx
  obtain ⟨ob1, hob1, hrp1⟩ := obj_eq hs1.m hl1 hx1
  obtain ⟨tm1, xd1, ht1, hxd1, rfl⟩ := hrp1
  obtain ⟨hrel2, hstep2⟩ := hs1.m.setObj (o := .loop { state := .busy, pending := pe1, fn := fn1, tmps := tm1, params := ps1, assign := asg1, body := body1, defers := xd1.r }) hm2 hl1 hx1 ⟨tm1, xd1, ht1, hxd1, rfl⟩ rfl rfl
  have hb := run_beginRound (P := P) hob1 rfl
  obtain ⟨ex3, s3, E3, a3, w3, hm3, hs3, hstep3, hfn3, hrnd3, harr3⟩ := hih body { s1 with m := m2 } outs2 E1 a1 _ (some x.r) h3 ⟨hrel2, hs1.t, hs1.d⟩ (hI.step _ _ _ _ _ _ h (hstep1.trans h hstep2) hi) (by simp [hrnd1])
  obtain ⟨y, hy4, hy5⟩ := mapO_mem h2 _ hm3
  unfold endRd at hy4
  dsimp only at hy4 hfn3 hrnd3
  split at hy4
  case h_2 => cases hy4
  rename_i st4 pe4 fn4 ts4 nt4 ps4 asg4 body4 df4 root4 al4 hl4
  have hx3 : E3 l = some x := hstep3.le l x hx1
  obtain ⟨ob3, hob3, hrp3⟩ := obj_eq hs3.m hl4 hx3
  obtain ⟨tm4, xd4, ht4, hxd4, rfl⟩ := hrp3
  have hstep13 : Step E m w E3 s3.m w3 := (hstep1.trans h (hstep2.trans hs1.m hstep3))
  rw [hfn1] at harr3
  have pre : ∀ rest k cs, Steps P (lone (FR fn rnd a (.inRegion ops (i :: rest) :: k)) cs w) (lone (FR fn0 (some x.r) a1 [.code body]) (FR fn rnd a (.inRegion ops (i :: rest) :: k) :: cs) (w1.putObj x.r (.loop { state := .busy, pending := pe1, fn := fn1, tmps := tm1, params := ps1, assign := asg1, body := body1, defers := xd1.r }))) := by
    intro rest k cs
    refine Steps.trans (.one (s0 rest k cs)) (Steps.trans (harr1 [.beginRound, .code body] _) (.one (st_beginRound hb)))
  have fin : ∀ rest k cs, Arr P (lone (FR fn rnd a (.inRegion ops (i :: rest) :: k)) cs w) fn0 (some x.r) [] (FR fn rnd a (.inRegion ops (i :: rest) :: k) :: cs) ex3 a3 w3 :=
    fun rest k cs => Arr.of_steps (pre rest k cs) (harr3 [] _)
  have opfin : ∀ u rest k, (FR fn rnd a (.inRegion ops (i :: rest) :: k)).finish u = FR fn rnd (a.put o.dst u) (.inRegion ops rest :: k) := by
    intro u rest k
    rw [FR_finish, ho]; rfl
  cases ex3 with
  | normal =>
    dsimp only [jumpOf] at hy4
    split at hy4
    case h_2 => cases hy4
    rename_i m5 hm5
    cases hy4
    obtain ⟨hrel5, hstep5⟩ := hs3.m.setObj (o := .loop { state := .ready, pending := none, fn := fn4, tmps := tm4, params := ps4, assign := asg4, body := body4, defers := xd4.r }) hm5 hl4 hx3 ⟨tm4, xd4, ht4, hxd4, rfl⟩ rfl rfl
    refine ⟨_, _, E3, _, .bool true, hr2 _ hy5, fun rest k cs => ?_, rfl, hrel5, hstep13.trans h hstep5⟩
    have := st_round_end (P := P) (fn := fn0) (a := a3) (c := FR fn rnd a (.inRegion ops (i :: rest) :: k)) (cs := cs) (run_endRound none hob3)
    rw [opfin] at this
    exact (fin rest k cs).trans (.one this)
  | exit id =>
    dsimp only [jumpOf] at hy4
    split at hy4
    case h_2 => cases hy4
    rename_i m5 hm5
    cases hy4
    obtain ⟨hrel5, hstep5⟩ := hs3.m.setObj (o := .loop { state := .done, pending := some (.exit id), fn := fn4, tmps := tm4, params := ps4, assign := asg4, body := body4, defers := xd4.r }) hm5 hl4 hx3 ⟨tm4, xd4, ht4, hxd4, rfl⟩ rfl rfl
    refine ⟨_, _, E3, _, .bool false, hr2 _ hy5, fun rest k cs => ?_, rfl, hrel5, hstep13.trans h hstep5⟩
    obtain ⟨k0, hk0, hst⟩ := fin rest k cs
    have := st_round_exit (P := P) (fn := fn0) (a := a3) (k := k0) (c := FR fn rnd a (.inRegion ops (i :: rest) :: k)) (cs := cs) (hk0.trans rfl) (run_endRound (some (.exit id)) hob3)
    rw [opfin] at this
    exact hst.trans (.one this)
  | ret =>
    dsimp only [jumpOf] at hy4
    split at hy4
    case h_2 => cases hy4
    rename_i m5 hm5
    cases hy4
    obtain ⟨hrel5, hstep5⟩ := hs3.m.setObj (o := .loop { state := .done, pending := some .ret, fn := fn4, tmps := tm4, params := ps4, assign := asg4, body := body4, defers := xd4.r }) hm5 hl4 hx3 ⟨tm4, xd4, ht4, hxd4, rfl⟩ rfl rfl
    refine ⟨_, _, E3, _, .bool false, hr2 _ hy5, fun rest k cs => ?_, rfl, hrel5, hstep13.trans h hstep5⟩
    obtain ⟨k0, hst⟩ := fin rest k cs
    have := st_round_ret (P := P) (fn := fn0) (a := a3) (k := k0) (c := FR fn rnd a (.inRegion ops (i :: rest) :: k)) (cs := cs) (run_endRound (some .ret) hob3)
    rw [opfin] at this
    exact hst.trans (.one this)

theorem callV_ok {I : Env → M → World → Prop} (hI : Keeps I) {ca : CallT} {ih : Code → St → R} (hca : CallOk P I ca) (hih : ExOk P I ih) {v : V} {args : List V} {vu : Value} {us : List Value} {outs : List (V × M)} (h : Rel E m w) (hi : I E m w) (hc : callV P ca ih v args m = some outs)
    (hv : rep E v = some vu) (hu : reps E args = some us)
    {fn : FuncId} {rnd : Option Nat} {ops : Array Oper} {i : Nat} {o : Oper} (ho : ops[i]? = some o) (hw : Region.wanted o (yielded ops a.tmps) = true) (hd : ∀ c, o.op ≠ .defer c)
    (he : (execOp a.eval o).run P w = (do let d ← Deferred.ofValue vu us.toArray; invoke d.target d.args : Sem Next).run P w) : VGoes P E m w outs fn rnd ops i o a := by
  unfold callV at hc
  cases v <;> simp only [tgt, apR_eq] at hc <;> try (cases hc; done)
  case yld l =>
    simp only [rep, Option.map_eq_some_iff] at hv
    obtain ⟨x, hx, rfl⟩ := hv
    refine round_ok hI hih h hi hc hu hx ho hw hd (he.trans ?_)
    simp [Deferred.ofValue, invoke]
  case fn g first cap =>
    cases g <;> simp only at hc <;> try (cases hc; done)
    rename_i f
    simp only [rep, Option.bind_eq_some_iff, Option.map_eq_some_iff] at hv
    obtain ⟨fu, hfu, cu, hcu, rfl⟩ := hv
    cases hx : extOf P f with
    | some x =>
      rw [hx] at hc
      dsimp only at hc
      cases hp : eExt x (first ++ args ++ cap) m with
      | none => rw [hp] at hc; cases hc
      | some p =>
        rw [hp] at hc
        cases hc
        obtain ⟨v, m1⟩ := p
        obtain ⟨E', w', u, hrun, hr, hrel, hst⟩ := eExt_ok h hx (reps_append (reps_append hfu hu) hcu) hp
        have e : ((fu.toArray ++ us.toArray) ++ cu.toArray) = (fu ++ us ++ cu).toArray := by simp
        have he' : (execOp a.eval o).run P w = .ok (.value u) w' := by
          rw [he]
          have : (callFunc f ((fu.toArray ++ us.toArray) ++ cu.toArray)).run P w = .ok (.value u) w' := by rw [e]; exact hrun
          simpa [Deferred.ofValue, invoke] using this
        exact ⟨v, m1, E', w', u, by simp, fun rest k cs => .one (st_op_value ho hw hd he'), hr, hrel, hst⟩
    | none =>
    rw [hx] at hc
    dsimp only at hc
    obtain ⟨v, m1, E', w', u, hm, hl, hr, hrel, hst, hcf⟩ := hca f _ _ _ E w _ hc h (reps_append (reps_append hfu hu) hcu) hi
    refine ⟨v, m1, E', w', u, hm, fun rest k cs => ?_, hr, hrel, hst⟩
    have hcf' := hcf ((fu.toArray ++ us.toArray) ++ cu.toArray) (by simp)
    have he' : (execOp a.eval o).run P w = .ok (.enter f ((fu.toArray ++ us.toArray) ++ cu.toArray)) w := by
      rw [he]; simpa [Deferred.ofValue, invoke] using hcf'
    have h1 := st_op_enter (fn := fn) (rnd := rnd) (k := k) (cs := cs) (rest := rest) ho hw hd he'
    have h2 := hl.ret (FR fn rnd a (.inRegion ops (i :: rest) :: k)) cs
    rw [FR_finish, ho] at h2
    refine Steps.trans (.one h1) ?_
    have e : ((fu.toArray ++ us.toArray) ++ cu.toArray) = (fu ++ us ++ cu).toArray := by simp
    rw [e]; exact h2

theorem effC_ok {I : Env → M → World → Prop} (hI : Keeps I) {ca : CallT} {ih : Code → St → R} (hca : CallOk P I ca) (hih : ExOk P I ih) {ts : T V} {outs : List (V × M)} (h : Rel E m w) (hi : I E m w) (hev : ∀ x v, ev ts x = some v → rep E v = some (a.eval x))
    {fn : FuncId} {rnd : Option Nat} {ops : Array Oper} {i : Nat} {o : Oper} (ho : ops[i]? = some o) (hw : Region.wanted o (yielded ops a.tmps) = true) (hc : effC P ca ih ts m o.op = some outs) (hie : isEff o.op = true) : VGoes P E m w outs fn rnd ops i o a := by
  have hd : ∀ c, o.op ≠ .defer c := fun c hcc => by rw [hcc] at hie; cases hie
  rw [effC_eq] at hc
  unfold effC0 at hc
  split at hc
  · rename_i f args ats hop
    split at hc
    · rename_i v l hv hl
      refine callV_ok hI hca hih h hi hc (hev _ _ hv) (evs_ok hev _ _ hl) ho hw hd ?_
      obtain ⟨dst, op, ty, pos, after, guard⟩ := o
      dsimp only at hop; subst hop
      simp only [execOp, resolve, List.map_toArray]
      rw [← Array.toList_map, Array.toArray_toList]
    · cases hc
  · rename_i hnv
    obtain ⟨v, m1, E', w', hm, hr, hrel, hst⟩ := eff_ok h hev o hc
    rcases hr with ⟨u, hrun, hu⟩ | ⟨hrun, rfl⟩
    · exact ⟨v, m1, E', w', u, hm, fun rest k cs => .one (st_op_value ho hw hd hrun), hu, hrel, hst⟩
    · exact ⟨_, m1, E', w', undef, hm, fun rest k cs => .one (st_op_quiet ho hw hd hrun), rfl, hrel, hst⟩
end
end Go.Proofs.YtdjpjmojmppjkaaGreat.Eng

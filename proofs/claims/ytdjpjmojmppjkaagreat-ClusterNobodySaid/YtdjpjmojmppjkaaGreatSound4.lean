/- Code. -/
import Derived.Test.YtdjpjmojmppjkaaGreatSound3
namespace Go.Proofs.YtdjpjmojmppjkaaGreat.Eng
open Go

section
variable {P : Program} {E E' : Env} {m m' : M} {w w' w1 : World} {s s' : St} {a : Act}

theorem contK {k : St → R} {l : List (Ex × St)} {r : List (Ex × St)} (h : (match (some l : Option (List (Ex × St))) with | some [(.normal, s')] => k s' | some outs => joinO (cont k) outs | none => none) = some r) : ∀ x ∈ l, ∃ y, cont k x = some y ∧ ∀ z ∈ y, z ∈ r := by
  intro x hx
  split at h
  · rename_i s' heq
    cases heq
    simp at hx; subst hx
    exact ⟨r, h, fun _ hz => hz⟩
  · rename_i outs _ heq
    cases heq
    exact joinO_mem h x hx
  · cases h

/-- Behind the first part. -/
theorem cont_ok {I : Env → M → World → Prop} (hI : Keeps I) {ih : Code → St → R} (hih : ExOk P I ih) {b : Code} {rr : Option Nat} {r y : List (Ex × St)} {ex1 : Ex} {s1 : St} {E1 : Env} {a1 : Act} {w1 : World} {c : Code}
    (h0 : SRel E s a w) (hi : I E s.m w) (hrr : rr = none ↔ s.rnd = none) (hr1 : SRel E1 s1 a1 w1) (hst1 : Step E s.m w E1 s1.m w1) (hfn1 : s1.fn = s.fn) (hrnd1 : s1.rnd = s.rnd) (hy : cont (ih b) (ex1, s1) = some y) (hz : ∀ z ∈ y, z ∈ r)
    (ha : ∀ k cs, ∃ k', (∀ id, exitTo id k' = exitTo id k) ∧ Arr P (lone (FR s.fn rr a (.code c :: k)) cs w) s.fn rr k' cs ex1 a1 w1 ∧ ∀ ex2 a2 w2, Arr P (lone (FR s.fn rr a1 (.code b :: k)) cs w1) s.fn rr k cs ex2 a2 w2 → Arr P (lone (FR s.fn rr a1 k') cs w1) s.fn rr k cs ex2 a2 w2) : Goes P E s a w rr r c := by
  cases ex1 with
  | normal =>
    have hy' : ih b s1 = some y := hy
    obtain ⟨ex2, s2, E2, a2, w2, hm2, hr2, hst2, hfn2, hrnd2, harr2⟩ := hih b s1 y E1 a1 w1 rr hy' hr1 (hI.step _ _ _ _ _ _ h0.m hst1 hi) (by rw [hrnd1]; exact hrr)
    refine ⟨ex2, s2, E2, a2, w2, hz _ hm2, hr2, hst1.trans h0.m hst2, hfn2.trans hfn1, hrnd2.trans hrnd1, fun k cs => ?_⟩
    obtain ⟨k', _, h1, h2⟩ := ha k cs
    rw [hfn1] at harr2
    exact Arr.of_steps h1 (h2 _ _ _ (harr2 k cs))
  | exit id =>
    cases hy
    refine ⟨.exit id, s1, E1, a1, w1, hz _ (by simp), hr1, hst1, hfn1, hrnd1, fun k cs => ?_⟩
    obtain ⟨k', h1, ⟨k0, h2, h3⟩, _⟩ := ha k cs
    exact ⟨k0, h2.trans (h1 id), h3⟩
  | ret =>
    cases hy
    refine ⟨.ret, s1, E1, a1, w1, hz _ (by simp), hr1, hst1, hfn1, hrnd1, fun k cs => ?_⟩
    obtain ⟨k', h1, ⟨k0, h2⟩, _⟩ := ha k cs
    exact ⟨k0, h2⟩

theorem steps_swap {M0 M0' M1 M2 : Machine} (h : Steps P M0 M1) (h1 : step P M0 = .next M2) (h2 : step P M0' = .next M2) (hne : M1 ≠ M0) : Steps P M0' M1 := by
  obtain ⟨n, hn⟩ := h
  cases n with
  | zero => simp [runN] at hn; exact absurd hn.symm hne
  | succ n => exact ⟨n + 1, by simp only [runN, h1] at hn; simp only [runN, h2]; exact hn⟩
theorem lone_ne {fr fr' : Frame} {cs cs' : List Frame} {w w' : World} (h : fr.todo ≠ fr'.todo) : lone fr cs w ≠ lone fr' cs' w' := by
  intro e
  simp only [lone, Machine.mk.injEq] at e
  simp_all
theorem arr_swap {M0' M2 : Machine} {fn : FuncId} {rr : Option Nat} {k : List Item} {cs : List Frame} {ex : Ex} {a1 : Act} {b : Code} (h : Arr P (lone (FR fn rr a (.code (.loop b) :: k)) cs w) fn rr k cs ex a1 w1)
    (h1 : step P (lone (FR fn rr a (.code (.loop b) :: k)) cs w) = .next M2) (h2 : step P M0' = .next M2) : Arr P M0' fn rr k cs ex a1 w1 := by
  cases ex with
  | normal =>
    refine steps_swap h h1 h2 (lone_ne ?_)
    show k ≠ _ :: k
    intro e; have := congrArg List.length e; simp at this
  | exit id =>
    obtain ⟨k0, h3, h4⟩ := h
    refine ⟨k0, h3, steps_swap h4 h1 h2 (lone_ne ?_)⟩
    show _ :: _ ≠ _ :: _
    intro e; injection e with e1 _; cases e1
  | ret =>
    obtain ⟨k0, h4⟩ := h
    refine ⟨k0, steps_swap h4 h1 h2 (lone_ne ?_)⟩
    show _ :: _ ≠ _ :: _
    intro e; injection e with e1 _; cases e1

theorem out_ok {id : Nat} {c : Code} {rr : Option Nat} {r y : List (Ex × St)} {ex1 : Ex} {s1 : St} {E1 : Env} {a1 : Act} {w1 : World}
    (hr1 : SRel E1 s1 a1 w1) (hst1 : Step E s.m w E1 s1.m w1) (hfn1 : s1.fn = s.fn) (hrnd1 : s1.rnd = s.rnd) (hy : outOf id (ex1, s1) = some y) (hz : ∀ z ∈ y, z ∈ r)
    (ha : ∀ k cs, Arr P (lone (FR s.fn rr a (.code c :: k)) cs w) s.fn rr k cs ex1 a1 w1) : Goes P E s a w rr r (.block id c) := by
  have pre : ∀ k cs, Arr P (lone (FR s.fn rr a (.code (.block id c) :: k)) cs w) s.fn rr (.inBlock id :: k) cs ex1 a1 w1 := fun k cs => Arr.of_steps (.one st_block) (ha _ cs)
  cases ex1 with
  | normal =>
    cases hy
    exact ⟨.normal, s1, E1, a1, w1, hz _ (by simp), hr1, hst1, hfn1, hrnd1, fun k cs => Steps.trans (pre k cs) (.one st_inBlock)⟩
  | ret =>
    cases hy
    refine ⟨.ret, s1, E1, a1, w1, hz _ (by simp), hr1, hst1, hfn1, hrnd1, fun k cs => ?_⟩
    obtain ⟨k0, h2⟩ := pre k cs
    exact ⟨k0, h2⟩
  | exit j =>
    cases hy
    cases hj : Nat.beq j id with
    | true =>
      have : j = id := Nat.eq_of_beq_eq_true hj
      subst this
      refine ⟨.normal, s1, E1, a1, w1, hz _ (by rw [hj]; simp), hr1, hst1, hfn1, hrnd1, fun k cs => ?_⟩
      obtain ⟨k0, h2, h3⟩ := pre k cs
      refine Steps.trans h3 (.one (st_exit (h2.trans ?_)))
      simp [exitTo]
    | false =>
      refine ⟨.exit j, s1, E1, a1, w1, hz _ (by rw [hj]; simp), hr1, hst1, hfn1, hrnd1, fun k cs => ?_⟩
      obtain ⟨k0, h2, h3⟩ := pre k cs
      refine ⟨k0, h2.trans ?_, h3⟩
      have : ¬ id = j := fun e => by subst e; simp at hj
      simp [exitTo, this]

theorem range_ok {I : Env → M → World → Prop} (hI : Keeps I) {ca : CallT} {ih : Code → St → R} (hca : CallOk P I ca) (hih : ExOk P I ih) {f : Operand} {ps : Array Tmp} {asg body : Code} {v : V} {outs : List (Ex × St)} {rr : Option Nat} (hv : ev s.ts f = some v) (hs : rangeF ca ih v ps asg body s = some outs) (h : SRel E s a w) (hi : I E s.m w) (hrr : rr = none ↔ s.rnd = none) :
    Goes P E s a w rr outs (.rangeFunc f ps asg body) := by
  have hv' := ev_ok' h.t f v hv
  unfold rangeF at hs
  split at hs
  case h_2 => cases hs
  rename_i g first cap
  obtain ⟨hn, hs⟩ := cond_some hs
  split at hs
  case h_2 => cases hs
  rename_i hrnd
  cases hrr.2 hrnd
  split at hs
  case h_2 => cases hs
  rename_i outs1 h1
  have hn' : s.m.n + 1 < 65536 := by simpa using hn
  simp only [rep, Option.bind_eq_some_iff, Option.map_eq_some_iff] at hv'
  obtain ⟨fu, hfu, cu, hcu, hfv⟩ := hv'
  obtain ⟨hrA, hsA⟩ := h.m.alloc (.dfd false) (.deferred (some [])) ⟨w.heap.size, 0, 0, .nilIface⟩ rfl (by omega) rfl
  have hdfd : (E.add s.m.n ⟨w.heap.size, 0, 0, .nilIface⟩) s.m.n = some ⟨w.heap.size, 0, 0, .nilIface⟩ := Env.add_same _ _ _
  generalize hE1 : E.add s.m.n ⟨w.heap.size, 0, 0, .nilIface⟩ = E1 at *
  have hnA : (s.m.mk' (.dfd false)).n = s.m.n + 1 := rfl
  obtain ⟨hrB, hsB⟩ := hrA.alloc (.loop .ready none s.fn s.ts s.nt ps asg body s.m.n) (.loop { state := .ready, pending := none, fn := s.fn, tmps := a.tmps, params := ps, assign := asg, body, defers := w.heap.size }) ⟨w.heap.size + 1, 0, 0, .nilIface⟩ (by simp) (by rw [hnA]; exact hn')
    ⟨a.tmps, ⟨w.heap.size, 0, 0, .nilIface⟩, trep_mono (Env.le_trans hsA.le (E1.le_add _ (hrA.unmapped (Nat.le_refl _)))) h.t, E1.le_add _ (hrA.unmapped (Nat.le_refl _)) _ _ hdfd, rfl⟩
  rw [hnA] at hrB hsB
  have hloop : (E1.add (s.m.n + 1) ⟨w.heap.size + 1, 0, 0, .nilIface⟩) (s.m.n + 1) = some ⟨w.heap.size + 1, 0, 0, .nilIface⟩ := Env.add_same _ _ _
  have hdfd2 := hsB.le _ _ hdfd
  generalize hE2 : E1.add (s.m.n + 1) ⟨w.heap.size + 1, 0, 0, .nilIface⟩ = E2 at *
  have hsAB := hsA.trans h.m hsB
  have hargs : reps E2 (first ++ [.yld (s.m.n + 1)] ++ cap) = some (fu ++ [Value.func (.yield (w.heap.size + 1)) #[] #[]] ++ cu) :=
    reps_append (reps_append (reps_mono hsAB.le _ _ hfu) (reps_cons (by simp only [rep, hloop, Option.map_some]) reps_nil)) (reps_mono hsAB.le _ _ hcu)
  obtain ⟨v1, m1, E3, w3, u, hm, hl, hr, hrel, hst, hcf⟩ := hca g _ _ _ E2 _ _ h1 hrB hargs (hI.step _ _ _ _ _ _ h.m hsAB hi)
  obtain ⟨y, hy, hz⟩ := joinO_mem hs _ hm
  have hxs : (fu.toArray ++ #[Value.func (.yield (w.heap.size + 1)) #[] #[]] ++ cu.toArray) = (fu ++ [Value.func (.yield (w.heap.size + 1)) #[] #[]] ++ cu).toArray := by simp
  have hent := run_enterLoop_outer (P := P) (w := w) s.fn a.tmps ps asg body
  have st1 : ∀ k cs, Steps P (lone (FR s.fn none a (.code (.rangeFunc f ps asg body) :: k)) cs w) (lone (FR s.fn none { a with defers := { target := .collected w.heap.size, args := #[] } :: a.defers } (.endRangeFunc (w.heap.size + 1) :: k)) cs w3) := by
    intro k cs
    have s1 := st_rangeFunc (P := P) (fn := s.fn) (a := a) (k := k) (cs := cs) (w := w) (ps := ps) (asg := asg) (body := body) hfv.symm hent (hcf _ hxs)
    refine Steps.trans (.one s1) ?_
    have s2 := hl.ret (FR s.fn none { a with defers := { target := .collected w.heap.size, args := #[] } :: a.defers } (.inRangeFunc (w.heap.size + 1) :: k)) cs
    rw [FR_finish_range] at s2
    rw [hxs]; exact s2
  unfold endLp at hy
  dsimp only at hy
  split at hy
  case h_2 => cases hy
  rename_i st pe fn0 ts nt ps' asg' body' df root al hlk
  obtain ⟨ob, hob, hrp⟩ := obj_eq hrel hlk (hst.le _ _ hloop)
  obtain ⟨tm, xd, ht, hxd, rfl⟩ := hrp
  have hst0 := hsAB.trans h.m hst
  have hd : drep E3 (s.m.n :: s.d) ({ target := .collected w.heap.size, args := #[] } :: a.defers) := ⟨⟨_, hst.le _ _ hdfd2, rfl⟩, drep_mono hst0.le h.d⟩
  split at hy
  · cases hy
  rename_i hnb
  split at hy
  case h_2 => cases hy
  rename_i m5 hm5
  obtain ⟨hrel5, hst5⟩ := hrel.setObj (o := .loop { state := .exhausted, pending := pe, fn := fn0, tmps := tm, params := ps', assign := asg', body := body', defers := xd.r }) hm5 hlk (hst.le _ _ hloop) ⟨tm, xd, ht, hxd, rfl⟩ rfl rfl
  have hend := run_endLoop (P := P) hob (by exact hnb)
  have hst05 := hst0.trans h.m hst5
  split at hy
  · cases hy
    refine ⟨.normal, { s with d := s.m.n :: s.d, m := m5 }, E3, { a with defers := { target := .collected w.heap.size, args := #[] } :: a.defers }, _, hz _ (by simp), ⟨hrel5, trep_mono hst0.le h.t, hd⟩, hst05, rfl, rfl, fun k cs => ?_⟩
    exact Steps.trans (st1 k cs) (.one (st_endRange_none hend))
  · rename_i j
    obtain ⟨ex6, s6, E6, a6, w6, hm6, hr6, hst6, hfn6, hrnd6, harr6⟩ := hih j { s with d := s.m.n :: s.d, m := m5 } y E3 { a with defers := { target := .collected w.heap.size, args := #[] } :: a.defers } _ none hy ⟨hrel5, trep_mono hst0.le h.t, hd⟩ (hI.step _ _ _ _ _ _ h.m hst05 hi) hrr
    refine ⟨ex6, s6, E6, a6, w6, hz _ hm6, hr6, hst05.trans h.m hst6, hfn6, hrnd6, fun k cs => ?_⟩
    exact Arr.of_steps (Steps.trans (st1 k cs) (.one (st_endRange_some hend))) (harr6 k cs)

theorem exec1_ok {I : Env → M → World → Prop} (hI : Keeps I) {ca : CallT} {ih : Code → St → R} (hca : CallOk P I ca) (hdr : RegOk P I ca ih) (hih : ExOk P I ih) : ExOk P I (exec1 P ca ih) := by
  intro c s outs E a w rr hs h hi hrr
  cases c <;> simp only [exec1_eq, exec10, mapR_eq] at hs <;> try (cases hs; done)
  case skip => cases hs; exact ⟨.normal, s, E, a, w, by simp, h, Step.refl _ _ _, rfl, rfl, fun k cs => .one st_skip⟩
  case label l => cases hs; exact ⟨.normal, s, E, a, w, by simp, h, Step.refl _ _ _, rfl, rfl, fun k cs => .one st_label⟩
  case exit id => cases hs; exact ⟨.exit id, s, E, a, w, by simp, h, Step.refl _ _ _, rfl, rfl, fun k cs => ⟨k, rfl, .refl _ _⟩⟩
  case ret => cases hs; exact ⟨.ret, s, E, a, w, by simp, h, Step.refl _ _ _, rfl, rfl, fun k cs => ⟨k, .refl _ _⟩⟩
  case seq x y =>
    cases h1 : ih x s with
    | none => rw [h1] at hs; cases hs
    | some outs1 =>
      rw [h1] at hs
      obtain ⟨ex1, s1, E1, a1, w1, hm1, hr1, hst1, hfn1, hrnd1, harr1⟩ := hih x s outs1 E a w rr h1 h hi hrr
      obtain ⟨y', hy, hz⟩ := contK (k := ih y) hs _ hm1
      exact cont_ok hI hih h hi hrr hr1 hst1 hfn1 hrnd1 hy hz (fun k cs => ⟨.code y :: k, fun id => rfl, Arr.of_steps (.one st_seq) (harr1 (.code y :: k) cs), fun _ _ _ hh => hh⟩)
  case loop x =>
    cases h1 : ih x s with
    | none => rw [h1] at hs; cases hs
    | some outs1 =>
      rw [h1] at hs
      obtain ⟨ex1, s1, E1, a1, w1, hm1, hr1, hst1, hfn1, hrnd1, harr1⟩ := hih x s outs1 E a w rr h1 h hi hrr
      obtain ⟨y', hy, hz⟩ := contK (k := ih (.loop x)) hs _ hm1
      exact cont_ok hI hih h hi hrr hr1 hst1 hfn1 hrnd1 hy hz (fun k cs => ⟨.inLoop x :: k, fun id => rfl, Arr.of_steps (.one st_loop) (harr1 (.inLoop x :: k) cs), fun _ _ _ hh => arr_swap hh st_loop st_inLoop⟩)
  case cond c x y =>
    split at hs
    · rename_i hc
      have hc' : a.eval c = .bool true := by have := ev_ok' h.t _ _ hc; simpa [rep] using this.symm
      obtain ⟨ex1, s1, E1, a1, w1, hm1, hr1, hst1, hfn1, hrnd1, harr1⟩ := hih x s outs E a w rr hs h hi hrr
      exact ⟨ex1, s1, E1, a1, w1, hm1, hr1, hst1, hfn1, hrnd1, fun k cs => Arr.of_steps (.one (st_cond hc')) (harr1 k cs)⟩
    · rename_i hc
      have hc' : a.eval c = .bool false := by have := ev_ok' h.t _ _ hc; simpa [rep] using this.symm
      obtain ⟨ex1, s1, E1, a1, w1, hm1, hr1, hst1, hfn1, hrnd1, harr1⟩ := hih y s outs E a w rr hs h hi hrr
      exact ⟨ex1, s1, E1, a1, w1, hm1, hr1, hst1, hfn1, hrnd1, fun k cs => Arr.of_steps (.one (st_cond hc')) (harr1 k cs)⟩
    · cases hs
  case block id x =>
    cases h1 : ih x s with
    | none => rw [h1] at hs; cases hs
    | some outs1 =>
      rw [h1] at hs
      obtain ⟨ex1, s1, E1, a1, w1, hm1, hr1, hst1, hfn1, hrnd1, harr1⟩ := hih x s outs1 E a w rr h1 h hi hrr
      obtain ⟨y', hy, hz⟩ := joinO_mem hs _ hm1
      exact out_ok hr1 hst1 hfn1 hrnd1 hy hz harr1
  case scope x =>
    obtain ⟨ex1, s1, E1, a1, w1, hm1, hr1, hst1, hfn1, hrnd1, harr1⟩ := hih x s outs E a w rr hs h hi hrr
    refine ⟨ex1, s1, E1, a1, w1, hm1, hr1, hst1, hfn1, hrnd1, fun k cs => ?_⟩
    have pre : Arr P (lone (FR s.fn rr a (.code (.scope x) :: k)) cs w) s.fn rr (.inScope x :: k) cs ex1 a1 w1 := Arr.of_steps (.one st_scope) (harr1 (.inScope x :: k) cs)
    cases ex1 with
    | normal => exact Steps.trans pre (.one st_inScope)
    | exit id => obtain ⟨k0, h2, h3⟩ := pre; exact ⟨k0, h2, h3⟩
    | ret => exact pre
  case region id ops draw =>
    cases h1 : region P ca ih ops.toList draw s with
    | none => rw [h1] at hs; cases hs
    | some outs1 =>
      rw [h1] at hs
      cases hs
      obtain ⟨s1, E1, a1, w1, hm1, hr1, hst1, hfn1, hrnd1, hsteps⟩ := region_ok hI hca hih hdr id ops draw s outs1 E a w rr h1 h hi
      exact ⟨.normal, s1, E1, a1, w1, List.mem_map.2 ⟨s1, hm1, rfl⟩, hr1, hst1, hfn1, hrnd1, fun k cs => hsteps k cs⟩
  case rangeFunc f ps asg body =>
    split at hs
    · rename_i v hv
      exact range_ok hI hca hih hv hs h hi hrr
    · cases hs

theorem exec_ok {I : Env → M → World → Prop} (hI : Keeps I) {ca : CallT} (hca : CallOk P I ca) (hdr : ∀ ih, ExOk P I ih → RegOk P I ca ih) : ∀ n, ExOk P I (exec P ca n)
  | 0 => fun c s outs E a w rr hs h hi hrr => by cases hs
  | n + 1 => exec1_ok hI hca (hdr _ (exec_ok hI hca hdr n)) (exec_ok hI hca hdr n)
end
end Go.Proofs.YtdjpjmojmppjkaaGreat.Eng

/- Steps of the machine, in a frame of a function or of a round. -/
import Derived.Test.YtdjpjmojmppjkaaGreatExec
import Derived.Calls
namespace Go.Proofs.YtdjpjmojmppjkaaGreat.Eng
open Go

/-- A frame that runs. -/
def FR (fn : FuncId) (rnd : Option Nat) (a : Act) (todo : List Item) : Frame :=
  { fn, tmps := a.tmps, todo, defers := a.defers, mode := .run, kind := .normal, roundOf := rnd }

section
variable {P : Program} {fn : FuncId} {rnd : Option Nat} {a : Act} {k : List Item} {cs : List Frame} {w : World} {ops : Array Oper}

theorem FR_eval (todo : List Item) : (FR fn rnd a todo).eval = a.eval := by funext x; cases x <;> rfl

theorem st_skip : step P (lone (FR fn rnd a (.code .skip :: k)) cs w) = .next (lone (FR fn rnd a k) cs w) := step_lone_go (by simp [stepG, stepG.exec, FR])
theorem st_label {l : Nat} : step P (lone (FR fn rnd a (.code (.label l) :: k)) cs w) = .next (lone (FR fn rnd a k) cs w) := step_lone_go (by simp [stepG, stepG.exec, FR])
theorem st_inBlock {id : Nat} : step P (lone (FR fn rnd a (.inBlock id :: k)) cs w) = .next (lone (FR fn rnd a k) cs w) := step_lone_go (by simp [stepG, stepG.exec, FR])
theorem st_inScope {c : Code} : step P (lone (FR fn rnd a (.inScope c :: k)) cs w) = .next (lone (FR fn rnd a k) cs w) := step_lone_go (by simp [stepG, stepG.exec, FR])
theorem st_seq {x y : Code} : step P (lone (FR fn rnd a (.code (.seq x y) :: k)) cs w) = .next (lone (FR fn rnd a (.code x :: .code y :: k)) cs w) := step_lone_go (by simp [stepG, stepG.exec, FR])
theorem st_cond {c : Operand} {x y : Code} {t : Bool} (h : a.eval c = .bool t) : step P (lone (FR fn rnd a (.code (.cond c x y) :: k)) cs w) = .next (lone (FR fn rnd a (.code (if t then x else y) :: k)) cs w) :=
  step_lone_go (by
    have := congrFun (FR_eval (fn := fn) (rnd := rnd) (a := a) (.code (.cond c x y) :: k)) c
    simp only [FR] at this
    simp [stepG, stepG.exec, FR, this, h])
theorem st_block {id : Nat} {c : Code} : step P (lone (FR fn rnd a (.code (.block id c) :: k)) cs w) = .next (lone (FR fn rnd a (.code c :: .inBlock id :: k)) cs w) := step_lone_go (by simp [stepG, stepG.exec, FR])
theorem st_loop {c : Code} : step P (lone (FR fn rnd a (.code (.loop c) :: k)) cs w) = .next (lone (FR fn rnd a (.code c :: .inLoop c :: k)) cs w) := step_lone_go (by simp [stepG, stepG.exec, FR])
theorem st_inLoop {c : Code} : step P (lone (FR fn rnd a (.inLoop c :: k)) cs w) = .next (lone (FR fn rnd a (.code c :: .inLoop c :: k)) cs w) := step_lone_go (by simp [stepG, stepG.exec, FR])
theorem st_scope {c : Code} : step P (lone (FR fn rnd a (.code (.scope c) :: k)) cs w) = .next (lone (FR fn rnd a (.code c :: .inScope c :: k)) cs w) := step_lone_go (by simp [stepG, stepG.exec, FR])
theorem st_exit {id : Nat} {k' : List Item} (h : exitTo id k = some k') : step P (lone (FR fn rnd a (.code (.exit id) :: k)) cs w) = .next (lone (FR fn rnd a k') cs w) := step_lone_go (by simp [stepG, stepG.exec, FR, h])
theorem st_ret : step P (lone (FR fn none a (.code .ret :: k)) cs w) = .next (lone { FR fn none a (.code .ret :: k) with mode := .returning } cs w) := step_lone_go (by simp [stepG, stepG.exec, FR])
theorem st_end : step P (lone (FR fn none a []) cs w) = .next (lone { FR fn none a [] with mode := .returning } cs w) := step_lone_go (by simp [stepG, stepG.exec, FR])
theorem st_region {id : Nat} : step P (lone (FR fn rnd a (.code (.region id ops false) :: k)) cs w) = .next (lone (FR fn rnd a (.inRegion ops (List.range ops.size) :: k)) cs w) := step_lone_go (by simp [stepG, stepG.exec, FR])
theorem st_region_draw {id : Nat} : step P (lone (FR fn rnd a (.code (.region id ops true) :: k)) cs w) =
    .next (lone (FR fn rnd a (.inRegion ops (Region.schedule (P.follows .mixedOrders) ops (w.tape w.drawn (.order fn id))) :: k)) cs w.drew) :=
  step_lone_go (by simp [stepG, stepG.exec, FR, choose, Sem.run, Question.forced, Question.cut])
theorem st_region_end : step P (lone (FR fn rnd a (.inRegion ops [] :: k)) cs w) = .next (lone (FR fn rnd a k) cs w) := step_lone_go (by simp [stepG, stepG.exec, FR])

theorem FR_finish (i : Nat) (rest : List Nat) (v : Value) : (FR fn rnd a (.inRegion ops (i :: rest) :: k)).finish v = FR fn rnd (a.put ((ops[i]?).bind (·.dst)) v) (.inRegion ops rest :: k) := by
  cases h : (ops[i]?).bind (·.dst) <;> simp [Frame.finish, FR, Act.put, h]

theorem st_op_skip {i : Nat} {rest : List Nat} (h : ((ops[i]?).map (Region.wanted · (yielded ops a.tmps))).getD false = false) :
    step P (lone (FR fn rnd a (.inRegion ops (i :: rest) :: k)) cs w) = .next (lone (FR fn rnd (a.put ((ops[i]?).bind (·.dst)) undef) (.inRegion ops rest :: k)) cs w) := by
  rw [← FR_finish]
  exact step_lone_go (by
    have h' := h
    simp only [FR] at *
    simp [stepG, stepG.exec, h'])

theorem stG_op {i : Nat} {rest : List Nat} {o : Oper} (ho : ops[i]? = some o) (hw : Region.wanted o (yielded ops a.tmps) = true) (hd : ∀ c, o.op ≠ .defer c) :
    stepG P true { frame := FR fn rnd a (.inRegion ops (i :: rest) :: k), callers := cs, status := .running, dying := none } w =
      stepG.apply P true (FR fn rnd a (.inRegion ops (i :: rest) :: k)) cs none (execOp a.eval o) w := by
  have he := FR_eval (fn := fn) (rnd := rnd) (a := a) (.inRegion ops (i :: rest) :: k)
  simp only [FR] at he
  cases rnd with
  | none => simp [stepG, stepG.exec, stepG.oper, Frame.oper?, FR, ho, hw, he]
  | some l =>
    have : stepG.oper P true (FR fn (some l) a (.inRegion ops (i :: rest) :: k)) cs none w = stepG.apply P true (FR fn (some l) a (.inRegion ops (i :: rest) :: k)) cs none (execOp a.eval o) w := by
      simp only [stepG.oper, Frame.oper?, FR, ho, he]
      split
      · rename_i c h1 h2; exact absurd h2 (hd _)
      · rfl
    simp only [FR] at this
    simp [stepG, stepG.exec, FR, ho, hw, this]

theorem st_op_value {i : Nat} {rest : List Nat} {o : Oper} {v : Value} {w' : World} (ho : ops[i]? = some o) (hw : Region.wanted o (yielded ops a.tmps) = true) (hd : ∀ c, o.op ≠ .defer c) (hr : (execOp a.eval o).run P w = .ok (.value v) w') :
    step P (lone (FR fn rnd a (.inRegion ops (i :: rest) :: k)) cs w) = .next (lone (FR fn rnd (a.put o.dst v) (.inRegion ops rest :: k)) cs w') := by
  have hf := FR_finish (fn := fn) (rnd := rnd) (a := a) (k := k) (ops := ops) i rest v
  rw [ho] at hf
  refine step_lone_go ?_
  rw [stG_op ho hw hd]
  simp only [Option.bind_some] at hf
  rw [← hf]
  simp [stepG.apply, hr]
theorem st_op_quiet {i : Nat} {rest : List Nat} {o : Oper} {w' : World} (ho : ops[i]? = some o) (hw : Region.wanted o (yielded ops a.tmps) = true) (hd : ∀ c, o.op ≠ .defer c) (hr : (execOp a.eval o).run P w = .ok .skip w') :
    step P (lone (FR fn rnd a (.inRegion ops (i :: rest) :: k)) cs w) = .next (lone (FR fn rnd (a.put o.dst undef) (.inRegion ops rest :: k)) cs w') := by
  have hf := FR_finish (fn := fn) (rnd := rnd) (a := a) (k := k) (ops := ops) i rest undef
  rw [ho] at hf
  refine step_lone_go ?_
  rw [stG_op ho hw hd]
  simp only [Option.bind_some] at hf
  rw [← hf]
  simp [stepG.apply, hr]
theorem st_op_enter {i : Nat} {rest : List Nat} {o : Oper} {f : FuncId} {args : Array Value} {w' : World} (ho : ops[i]? = some o) (hw : Region.wanted o (yielded ops a.tmps) = true) (hd : ∀ c, o.op ≠ .defer c) (hr : (execOp a.eval o).run P w = .ok (.enter f args) w') :
    step P (lone (FR fn rnd a (.inRegion ops (i :: rest) :: k)) cs w) = .next (lone (Frame.enter P f args .normal) (FR fn rnd a (.inRegion ops (i :: rest) :: k) :: cs) w') := by
  refine step_lone_go ?_
  rw [stG_op ho hw hd]
  simp [stepG.apply, hr, FR]
theorem st_op_round {i : Nat} {rest : List Nat} {o : Oper} {l f : Nat} {tm : Array Value} {asg body : Code} {w' : World} (ho : ops[i]? = some o) (hw : Region.wanted o (yielded ops a.tmps) = true) (hd : ∀ c, o.op ≠ .defer c) (hr : (execOp a.eval o).run P w = .ok (.round l f tm asg body) w') :
    step P (lone (FR fn rnd a (.inRegion ops (i :: rest) :: k)) cs w) = .next (lone (FR f (some l) ⟨tm, []⟩ [.code asg, .beginRound, .code body]) (FR fn rnd a (.inRegion ops (i :: rest) :: k) :: cs) w') := by
  refine step_lone_go ?_
  rw [stG_op ho hw hd]
  simp [stepG.apply, hr, FR, Frame.round]

/-- The end of a round: the frame that called goes on. -/
theorem st_round_end {l : Nat} {c : Frame} {v : Value} {w' : World} (hr : (Instr.endRound l none).run P w = .ok v w') : step P (lone (FR fn (some l) a []) (c :: cs) w) = .next (lone (c.finish v) cs w') :=
  step_lone_go (by simp [stepG, stepG.exec, FR, hr, doReturn])
theorem st_round_ret {l : Nat} {c : Frame} {v : Value} {w' : World} (hr : (Instr.endRound l (some .ret)).run P w = .ok v w') : step P (lone (FR fn (some l) a (.code .ret :: k)) (c :: cs) w) = .next (lone (c.finish v) cs w') :=
  step_lone_go (by simp [stepG, stepG.exec, FR, hr, doReturn])
theorem st_round_exit {l id : Nat} {c : Frame} {v : Value} {w' : World} (hk : exitTo id k = none) (hr : (Instr.endRound l (some (.exit id))).run P w = .ok v w') : step P (lone (FR fn (some l) a (.code (.exit id) :: k)) (c :: cs) w) = .next (lone (c.finish v) cs w') :=
  step_lone_go (by simp [stepG, stepG.exec, FR, hk, hr, doReturn])
theorem st_beginRound {l : Nat} {w' : World} (hr : (Instr.beginRound l).run P w = .ok () w') : step P (lone (FR fn (some l) a (.beginRound :: k)) cs w) = .next (lone (FR fn (some l) a k) cs w') :=
  step_lone_go (by simp [stepG, stepG.exec, FR, stepG.apply, hr, Frame.finish])

/-- A loop over a function begins, outside of any round. -/
theorem st_rangeFunc {f : Operand} {ps : Array Tmp} {asg body : Code} {g : FuncId} {first cap : Array Value} {w1 : World} {l : Nat} {mark : List Deferred}
    (hf : a.eval f = .func (.func g) first cap) (he : (Instr.enterLoop fn a.tmps ps asg body none).run P w = .ok (l, mark) w1) (hg : (callFunc g (first ++ #[.func (.yield l) #[] #[]] ++ cap)).run P w1 = .ok (.enter g (first ++ #[.func (.yield l) #[] #[]] ++ cap)) w1) :
    step P (lone (FR fn none a (.code (.rangeFunc f ps asg body) :: k)) cs w) =
      .next (lone (Frame.enter P g (first ++ #[.func (.yield l) #[] #[]] ++ cap) .normal) (FR fn none { a with defers := mark ++ a.defers } (.inRangeFunc l :: k) :: cs) w1) := by
  refine step_lone_go ?_
  have hev : (FR fn none { a with defers := mark ++ a.defers } (.inRangeFunc l :: k)).eval f = .func (.func g) first cap := by rw [FR_eval]; cases f <;> exact hf
  simp only [FR] at hev
  have hres : (do let d ← resolve (FR fn none { a with defers := mark ++ a.defers } (.inRangeFunc l :: k)).eval { callee := .value f, args := #[.const (.func (.yield l) #[] #[])], argTypes := #[] } 0; invoke d.target d.args : Sem Next).run P w1 = .ok (.enter g (first ++ #[.func (.yield l) #[] #[]] ++ cap)) w1 := by
    simp only [FR, resolve, hev, Deferred.ofValue, Sem.run_bind, Sem.run_pure, Result.andThen_ok, invoke]
    simpa [Frame.eval] using hg
  simp only [FR] at hres
  simp [stepG, stepG.exec, FR, he, stepG.apply, hres]
theorem st_endRange_none {l : Nat} {w' : World} (hr : (Instr.endLoop l).run P w = .ok none w') : step P (lone (FR fn rnd a (.endRangeFunc l :: k)) cs w) = .next (lone (FR fn rnd a k) cs w') :=
  step_lone_go (by simp [stepG, stepG.exec, FR, hr])
theorem st_endRange_some {l : Nat} {c : Code} {w' : World} (hr : (Instr.endLoop l).run P w = .ok (some c) w') : step P (lone (FR fn rnd a (.endRangeFunc l :: k)) cs w) = .next (lone (FR fn rnd a (.code c :: k)) cs w') :=
  step_lone_go (by simp [stepG, stepG.exec, FR, hr])
theorem FR_finish_range {l : Nat} (v : Value) : (FR fn rnd a (.inRangeFunc l :: k)).finish v = FR fn rnd a (.endRangeFunc l :: k) := rfl
/-- A mark of a frame that ends. -/
theorem st_unmark {b : Nat} {ds : List Deferred} {w' : World} (hr : (Instr.takeDeferred b).run P w = .ok [] w') :
    step P (lone { FR fn rnd { a with defers := { target := .collected b, args := #[] } :: ds } k with mode := .returning } cs w) = .next (lone { FR fn rnd { a with defers := ds } k with mode := .returning } cs w') :=
  step_lone_go (by simp [stepG, FR, unwind, hr])

end
end Go.Proofs.YtdjpjmojmppjkaaGreat.Eng

/- The engine: code, calls, loops over functions, regions that draw their order. -/
import Derived.Test.YtdjpjmojmppjkaaGreatEffOk5
import GoSem.Machine.Exec
namespace Go.Proofs.YtdjpjmojmppjkaaGreat.Eng
open Go

structure Fun where
  nt : Nat
  res : List ResultVar
  body : Code

/-- The table of functions, as a tree. -/
noncomputable def funT (P : Program) (f : FuncId) : Option Func := cond (Nat.ble P.funcs.size 4096) ((T.ofList 12 P.funcs.toList).get 12 f) none
theorem funT_ok {P : Program} {f : FuncId} {i : Func} (h : funT P f = some i) : P.funcs[f]? = some i := by
  unfold funT at h
  cases hc : Nat.ble P.funcs.size 4096 with
  | false => rw [hc] at h; cases h
  | true =>
    rw [hc] at h
    have h' : (T.ofList 12 P.funcs.toList).get 12 f = some i := h
    rw [T.get_ofList 12 _ (by rw [Array.length_toList]; exact Nat.le_of_ble_eq_true hc), Array.getElem?_toList] at h'
    exact h'
noncomputable def mkFun (P : Program) (f : FuncId) : Option Fun :=
  match funT P f with
  | some F => match F.body with
    | some b => cond (F.name == "runtime.NumGoroutine") none (some ⟨F.ntmps, F.results.toList, b⟩)
    | none => none
  | none => none

/-- A frame: its function, the loop whose round it is, its slots, its marks, the memory. -/
structure St where
  fn : FuncId
  rnd : Option Nat
  ts : T V
  nt : Nat
  d : List Nat
  m : M

inductive Ex where
  | normal
  | exit (id : Nat)
  | ret

abbrev R := Option (List (Ex × St))
abbrev CallT := FuncId → List V → M → Option (List (V × M))

noncomputable def putV (s : St) (dst : Option Tmp) (v : V) : Option (T V) :=
  match dst with
  | none => some s.ts
  | some d => cond (Nat.blt d s.nt) (some (s.ts.set v DT d)) none

noncomputable def St.put (s : St) (dst : Option Tmp) (v : V) (m : M) : Option St :=
  match putV s dst v with
  | some ts => some { s with ts := ts, m := m }
  | none => none
noncomputable def St.puts (s : St) (dst : Option Tmp) : List (V × M) → Option (List St)
  | [] => some []
  | (v, m) :: l => match s.put dst v m, St.puts s dst l with
    | some a, some r => some (a :: r)
    | _, _ => none

noncomputable def wants (ops : List Oper) (ts : T V) (g : Option (Nat × Bool)) : Bool :=
  match g with
  | none => true
  | some (j, want) => match nth ops j with
    | some o => match o.dst with
      | some t => (match ts.get DT t with
        | some (.bool b) => cond want b (!b)
        | _ => false)
      | none => false
    | none => false

/-- A call of a function value: the function and what it is handed; or a round of a loop. -/
inductive Tgt where
  | fn (f : FuncId) (args : List V)
  | rd (l : Nat) (args : List V)
noncomputable def tgt (v : V) (args : List V) : Option Tgt :=
  match v with
  | .fn (.func f) first cap => some (.fn f (apR (apR first args) cap))
  | .yld l => some (.rd l args)
  | _ => none

noncomputable def setAll (nt : Nat) : List Tmp → List V → T V → Option (T V)
  | [], [], ts => some ts
  | t :: l, v :: r, ts => cond (Nat.blt t nt) (setAll nt l r (ts.set v DT t)) none
  | _, _, _ => none

noncomputable def mapO {α β : Type} (f : α → Option β) : List α → Option (List β) := fun l => List.rec (some []) (fun x _ ih => match f x with | some y => (match ih with | some r => some (y :: r) | none => none) | none => none) l
noncomputable def joinO {α β : Type} (f : α → Option (List β)) : List α → Option (List β) := fun l => List.rec (some []) (fun x _ ih => match f x with | some y => (match ih with | some r => some (apR y r) | none => none) | none => none) l

noncomputable def jumpOf : Ex → Option Code
  | .normal => none
  | .exit id => some (.exit id)
  | .ret => some .ret

/-- The end of a round. -/
noncomputable def endRd (l : Nat) (p : Ex × St) : Option (V × M) :=
  match look p.2.m l with
  | some ⟨.loop _ _ fn ts nt ps asg body df, _, _⟩ => match jumpOf p.1 with
    | none => (match p.2.m.so l (.loop .ready none fn ts nt ps asg body df) with | some m => some (.bool true, m) | none => none)
    | some j => (match p.2.m.so l (.loop .done (some j) fn ts nt ps asg body df) with | some m => some (.bool false, m) | none => none)
  | _ => none
/-- Behind the assignments of a round. -/
noncomputable def midRd (ih : Code → St → R) (l : Nat) (body : Code) (p : Ex × St) : Option (List (V × M)) :=
  match p.1 with
  | .normal => match look p.2.m l with
    | some ⟨.loop .ready pe fn ts nt ps asg body' df, _, _⟩ => match p.2.m.so l (.loop .busy pe fn ts nt ps asg body' df) with
      | some m => (match ih body { p.2 with m := m } with
        | some outs => mapO (endRd l) outs
        | none => none)
      | none => none
    | _ => none
  | _ => none
noncomputable def round (ih : Code → St → R) (l : Nat) (args : List V) (m : M) : Option (List (V × M)) :=
  match look m l with
  | some ⟨.loop _ _ fn ts nt ps asg body _, _, _⟩ => match setAll nt ps.toList args ts with
    | some ts' => (match ih asg ⟨fn, some l, ts', nt, [], m⟩ with
      | some outs => joinO (midRd ih l body) outs
      | none => none)
    | none => none
  | _ => none

/-- Functions without a body that are told by a table. -/
inductive XK where
  | load (k : IntKind)
  | store
  | cas (k : IntKind)
  | add (k : IntKind)
  | clone
noncomputable def xkOf (n : String) : Option XK :=
  cond (n == "sync/atomic.LoadUint64") (some (.load .u64)) (cond (n == "sync/atomic.LoadUint32") (some (.load .u32)) (cond (n == "sync/atomic.StoreUint32") (some .store)
    (cond (n == "sync/atomic.CompareAndSwapUint64") (some (.cas .u64)) (cond (n == "sync/atomic.CompareAndSwapInt32") (some (.cas .i32)) (cond (n == "sync/atomic.AddInt64") (some (.add .i64)) (cond (n == "sync/atomic.AddInt32") (some (.add .i32)) (cond (n == "maps.clone") (some .clone) none)))))))
noncomputable def extOf (P : Program) (f : FuncId) : Option XK :=
  match funT P f with
  | some F => (match F.body with
    | some _ => none
    | none => cond (F.origin == "" && !(F.name == "runtime.NumGoroutine")) (xkOf F.name) none)
  | none => none
noncomputable def eExt (x : XK) (args : List V) (m : M) : Option (V × M) :=
  match x, args with
  | .load k, [.ptr b o] => (match rd m b o 1 with | some [.int k' x] => cond (keq k k') (some (.int k x, m)) none | _ => none)
  | .store, [.ptr b o, .int k y] => (match m.wr b o (.int k y) with | some m' => some (.tup [], m') | none => none)
  | .cas k, [.ptr b o, .int k1 x, .int k2 y] => (match rd m b o 1 with
    | some [.int k3 z] => cond (keq k k1 && keq k k2 && keq k k3) (cond (ieq z x) (match m.wr b o (.int k y) with | some m' => some (.bool true, m') | none => none) (some (.bool false, m))) none
    | _ => none)
  | .add k, [.ptr b o, .int k1 y] => (match rd m b o 1 with
    | some [.int k3 x] => cond (keq k k1 && keq k k3) (match m.wr b o (.int k (fw k (x + y))) with | some m' => some (.int k (fw k (x + y)), m') | none => none) none
    | _ => none)
  | .clone, [.iface t (.map b)] => (match look m b with
    | some ⟨.map es clock, _, _⟩ => cond (Nat.blt m.n 65536) (some (.iface t (.map m.n), m.mk' (.map es clock))) none
    | _ => none)
  | _, _ => none

noncomputable def callV (P : Program) (ca : CallT) (ih : Code → St → R) (v : V) (args : List V) (m : M) : Option (List (V × M)) :=
  match tgt v args with
  | some (.fn f l) => (match extOf P f with
    | some x => one2 (eExt x l m)
    | none => ca f l m)
  | some (.rd l args) => round ih l args m
  | none => none

noncomputable def isEff : Op → Bool
  | .store _ _ _ => true
  | .mapUpdate _ _ _ _ => true
  | .insert _ _ _ _ => true
  | .next _ _ => true
  | .call ⟨.value _, _, _⟩ => true
  | .call ⟨.builtin .append, _, _⟩ => true
  | .call ⟨.builtin .copy, _, _⟩ => true
  | .call ⟨.builtin .delete, _, _⟩ => true
  | .call ⟨.builtin .clear, _, _⟩ => true
  | _ => false

/-- An operation that writes, or calls. -/
noncomputable def effC0 (P : Program) (ca : CallT) (ih : Code → St → R) (ts : T V) (m : M) (op : Op) : Option (List (V × M)) :=
  match op with
  | .call ⟨.value f, args, _⟩ => (match ev ts f, evs ts args.toList with
    | some v, some l => callV P ca ih v l m
    | _, _ => none)
  | op => eff P ts m op

structure EffBox where
  f : Program → CallT → (Code → St → R) → T V → M → Option (List (V × M))
noncomputable def effB (op : Op) : EffBox :=
  match op with
  | .call ⟨.value f, args, _⟩ => ⟨fun P ca ih ts m => (match ev ts f, evs ts args.toList with
    | some v, some l => callV P ca ih v l m
    | _, _ => none)⟩
  | op => ⟨fun P _ _ ts m => (effB0 op).f P ts m⟩
noncomputable def effC (P : Program) (ca : CallT) (ih : Code → St → R) (ts : T V) (m : M) (op : Op) : Option (List (V × M)) := (effB op).f P ca ih ts m
theorem effC_eq (P : Program) (ca : CallT) (ih : Code → St → R) (ts : T V) (m : M) (op : Op) : effC P ca ih ts m op = effC0 P ca ih ts m op := by
  unfold effC effB effC0
  cases op <;> try rfl
  case call c => obtain ⟨callee, args, ats⟩ := c; cases callee <;> rfl

noncomputable def step1 (P : Program) (ca : CallT) (ih : Code → St → R) (ops : List Oper) (o : Oper) (s : St) : Option (List St) :=
  cond (wants ops s.ts o.guard)
    (cond (isEff o.op)
      (match effC P ca ih s.ts s.m o.op with
      | some outs => s.puts o.dst outs
      | none => none)
      (match flt P s.ts s.m o.op with
      | some (.v v) => (match s.put o.dst v s.m with | some s' => some [s'] | none => none)
      | some (.a ao k) => cond (Nat.blt s.m.n 65536) (match s.put o.dst (k s.m.n) (s.m.mk' ao) with | some s' => some [s'] | none => none) none
      | some .b => s.puts o.dst [(.bool true, s.m), (.bool false, s.m)]
      | none => none))
    (match s.put o.dst (.tup []) s.m with | some s' => some [s'] | none => none)

/-- A value into its slot, and on. -/
noncomputable def putK (dst : Option Tmp) (v : V) (m : M) (k : St → Option (List St)) (s : St) : Option (List St) :=
  match dst with
  | none => k ⟨s.fn, s.rnd, s.ts, s.nt, s.d, m⟩
  | some d => cond (Nat.blt d s.nt) (k ⟨s.fn, s.rnd, s.ts.set v DT d, s.nt, s.d, m⟩) none
noncomputable def seqK (k : St → Option (List St)) (r : Option (List St)) : Option (List St) :=
  match r with
  | some [s'] => k s'
  | some outs => joinO k outs
  | none => none
theorem putK_eq (dst : Option Tmp) (v : V) (m : M) (k : St → Option (List St)) (s : St) : putK dst v m k s = seqK k (match s.put dst v m with | some s' => some [s'] | none => none) := by
  unfold putK St.put putV seqK
  cases dst with
  | none => rfl
  | some d => dsimp only; cases Nat.blt d s.nt <;> rfl
/-- An operation, looked up once. -/
structure StepBox where
  f : Program → CallT → (Code → St → R) → List Oper → (St → Option (List St)) → St → Option (List St)
noncomputable def baseB (o : Oper) : StepBox :=
  cond (isEff o.op)
    ⟨fun P ca ih _ k s => match (effB o.op).f P ca ih s.ts s.m with
      | some [(v, m)] => putK o.dst v m k s
      | some outs => seqK k (s.puts o.dst outs)
      | none => none⟩
    ⟨fun P _ _ _ k s => match (fltB o.op).f P s.ts s.m with
      | some (.v v) => putK o.dst v s.m k s
      | some (.a ao kk) => cond (Nat.blt s.m.n 65536) (putK o.dst (kk s.m.n) (s.m.mk' ao) k s) none
      | some .b => seqK k (s.puts o.dst [(.bool true, s.m), (.bool false, s.m)])
      | none => none⟩
theorem baseB_eq (P : Program) (ca : CallT) (ih : Code → St → R) (ops : List Oper) (o : Oper) (k : St → Option (List St)) (s : St) : (baseB o).f P ca ih ops k s = seqK k (cond (isEff o.op)
      (match effC P ca ih s.ts s.m o.op with
      | some outs => s.puts o.dst outs
      | none => none)
      (match flt P s.ts s.m o.op with
      | some (.v v) => (match s.put o.dst v s.m with | some s' => some [s'] | none => none)
      | some (.a ao k) => cond (Nat.blt s.m.n 65536) (match s.put o.dst (k s.m.n) (s.m.mk' ao) with | some s' => some [s'] | none => none) none
      | some .b => s.puts o.dst [(.bool true, s.m), (.bool false, s.m)]
      | none => none)) := by
  unfold baseB
  cases he : isEff o.op with
  | true =>
    dsimp only [cond_true]
    show (match effC P ca ih s.ts s.m o.op with
      | some [(v, m)] => putK o.dst v m k s
      | some outs => seqK k (s.puts o.dst outs)
      | none => none) = _
    cases effC P ca ih s.ts s.m o.op with
    | none => rfl
    | some outs =>
      match outs with
      | [] => rfl
      | [(v, m)] =>
        dsimp only
        rw [putK_eq]
        unfold St.puts
        cases s.put o.dst v m <;> rfl
      | _ :: _ :: _ => rfl
  | false =>
    dsimp only [cond_false]
    show (match flt P s.ts s.m o.op with
      | some (.v v) => putK o.dst v s.m k s
      | some (.a ao kk) => cond (Nat.blt s.m.n 65536) (putK o.dst (kk s.m.n) (s.m.mk' ao) k s) none
      | some .b => seqK k (s.puts o.dst [(.bool true, s.m), (.bool false, s.m)])
      | none => none) = _
    cases flt P s.ts s.m o.op with
    | none => rfl
    | some r =>
      cases r with
      | v v => exact putK_eq _ _ _ _ _
      | a ao kk => dsimp only; cases Nat.blt s.m.n 65536 with
        | false => rfl
        | true => exact putK_eq _ _ _ _ _
      | b => rfl
noncomputable def stepB (o : Oper) : StepBox :=
  match o.guard with
  | some g => ⟨fun P ca ih ops k s => cond (wants ops s.ts (some g)) ((baseB o).f P ca ih ops k s) (putK o.dst (.tup []) s.m k s)⟩
  | none => baseB o
theorem stepB_eq (P : Program) (ca : CallT) (ih : Code → St → R) (ops : List Oper) (o : Oper) (k : St → Option (List St)) (s : St) : (stepB o).f P ca ih ops k s = seqK k (step1 P ca ih ops o s) := by
  unfold stepB step1
  cases hg : o.guard with
  | some g =>
    dsimp only
    cases wants ops s.ts (some g) with
    | true => rw [cond_true, cond_true]; exact baseB_eq P ca ih ops o k s
    | false => rw [cond_false, cond_false]; exact putK_eq _ _ _ _ _
  | none => exact baseB_eq P ca ih ops o k s

/-- Operations one behind the other. -/
noncomputable def seqOps (P : Program) (ca : CallT) (ih : Code → St → R) (ops : List Oper) : List Oper → St → Option (List St) := fun l =>
  List.rec (motive := fun _ => St → Option (List St)) (fun s => some [s]) (fun o _ k s => (stepB o).f P ca ih ops k s) l
theorem seqOps_cons (P : Program) (ca : CallT) (ih : Code → St → R) (ops : List Oper) (o : Oper) (l : List Oper) (s : St) : seqOps P ca ih ops (o :: l) s = match step1 P ca ih ops o s with
    | some [s'] => seqOps P ca ih ops l s'
    | some outs => joinO (seqOps P ca ih ops l) outs
    | none => none := stepB_eq P ca ih ops o (seqOps P ca ih ops l) s

/-! Regions that draw their order. -/
noncomputable def bindsB (e : Edge) : Bool := Region.binds .any e
/-- What each operation comes behind, as bits. -/
noncomputable def edgeBits (acc : List Nat) : List Edge → Nat := fun l => List.rec 0 (fun e _ ih => cond (bindsB e) (Nat.lor (Nat.lor (2 ^ e.on) ((nth acc e.on).getD 0)) ih) ih) l
noncomputable def befs (acc : List Nat) : List Oper → List Nat
  | [] => acc
  | o :: l => befs (acc ++ [edgeBits acc o.after.toList]) l
noncomputable def bit (n i : Nat) : Bool := Nat.beq (Nat.land (Nat.shiftRight n i) 1) 1

def tmpsOf : List Operand → List Tmp
  | [] => []
  | .tmp t :: l => t :: tmpsOf l
  | _ :: l => tmpsOf l
/-- The slots that an operation looks at. -/
noncomputable def seen (ops : List Oper) (o : Oper) : List Tmp :=
  tmpsOf o.op.operands.toList ++ (match o.guard with | some (j, _) => (match nth ops j with | some p => p.dst.toList | none => []) | none => [])
/-- Are the slots of a region's operations in order, whatever order is drawn? -/
noncomputable def slotOk (ops : List Oper) (bf : List Nat) (i : Nat) (o : Oper) (j : Nat) (p : Oper) : Bool :=
  match p.dst with
  | none => true
  | some t => cond (Nat.beq i j) true
      ((cond ((seen ops o).any fun u => Nat.beq u t) (cond (Nat.blt j i) (bit ((nth bf i).getD 0) j) (bit ((nth bf j).getD 0) i)) true) &&
       (match o.dst with | some u => !(Nat.beq u t) | none => true))
noncomputable def effIdx : Nat → List Oper → List Nat
  | _, [] => []
  | i, o :: l => cond (isEff o.op) (i :: effIdx (i + 1) l) (effIdx (i + 1) l)
noncomputable def chain (bf : List Nat) : List Nat → Bool
  | a :: b :: l => bit ((nth bf b).getD 0) a && chain bf (b :: l)
  | _ => true
noncomputable def ord (ops : List Oper) : List (Nat × Oper) := ops.zipIdx.map fun (o, i) => (i, o)
noncomputable def edgesOk (i : Nat) (o : Oper) : Bool := o.after.toList.all fun e => cond (bindsB e) (Nat.blt e.on i) true
noncomputable def regOk (ops : List Oper) : Bool :=
  (fun bf is => is.all (fun (i, o) => edgesOk i o && is.all fun (j, p) => slotOk ops bf i o j p) && chain bf (effIdx 0 ops)) (befs [] ops) (ord ops)

/-- Does an operation look into the memory? -/
def looks : Op → Bool
  | .load _ _ => true
  | .lookup _ _ _ _ => true
  | .convert _ _ _ => true
  | .entry _ => true
  | .range _ _ => true
  | .slice _ _ _ _ _ => true
  | .call _ => true
  | _ => false

/-- What is known of an operation of such a region: its value, the slots ahead of it, the block that it makes. -/
structure Rec where
  o : Oper
  v : V
  ts : T V
  ao : Option AO

/-- The blocks that operations of a set have made. -/
noncomputable def allocs (n0 mask : Nat) (m : M) : Nat → List Rec → M
  | _, [] => m
  | i, r :: l => match r.ao with
    | none => allocs n0 mask m (i + 1) l
    | some a => cond (bit mask i) (match m.h.get DH (n0 + i) with
      | none => allocs n0 mask { m with h := m.h.set ⟨a, n0 + i, false⟩ DH (n0 + i) } (i + 1) l
      | some _ => allocs n0 mask m (i + 1) l) (allocs n0 mask m (i + 1) l)

noncomputable def countIn (mask : Nat) : List Nat → Nat
  | [] => 0
  | e :: l => cond (bit mask e) (countIn mask l + 1) (countIn mask l)

/-- First all operations in the text's order. -/
noncomputable def pass1 (P : Program) (ca : CallT) (ih : Code → St → R) (ops : List Oper) (bf es : List Nat) (n0 nt : Nat) : Nat → List Oper → List Rec → List M → T V → Option (List Rec × List M × T V)
  | _, [], rs, snaps, ts => some (rs, snaps, ts)
  | i, o :: l, rs, snaps, ts =>
    cond (wants ops ts o.guard)
      (cond (isEff o.op)
        (cond (Nat.beq (countIn ((nth bf i).getD 0) es + 1) snaps.length) (match nth snaps (countIn ((nth bf i).getD 0) es) with
        | some m => (match effC P ca ih ts (allocs n0 ((nth bf i).getD 0) m 0 rs) o.op with
          | some [(v, m')] => (match putV ⟨0, none, ts, nt, [], m'⟩ o.dst v with
            | some ts' => pass1 P ca ih ops bf es n0 nt (i + 1) l (rs ++ [⟨o, v, ts, none⟩]) (snaps ++ [m']) ts'
            | none => none)
          | _ => none)
        | none => none) none)
        (match nth snaps (countIn ((nth bf i).getD 0) es) with
        | some m => (match flt P ts (allocs n0 ((nth bf i).getD 0) m 0 rs) o.op with
          | some (.v v) => (match putV ⟨0, none, ts, nt, [], m⟩ o.dst v with
            | some ts' => pass1 P ca ih ops bf es n0 nt (i + 1) l (rs ++ [⟨o, v, ts, none⟩]) snaps ts'
            | none => none)
          | some (.a ao k) => (match putV ⟨0, none, ts, nt, [], m⟩ o.dst (k (n0 + i)) with
            | some ts' => cond (looks o.op && !(match o.op with | .convert _ _ _ => true | _ => false)) none (pass1 P ca ih ops bf es n0 nt (i + 1) l (rs ++ [⟨o, k (n0 + i), ts, some ao⟩]) snaps ts')
            | none => none)
          | some .b => none
          | none => none)
        | none => none))
      (match putV ⟨0, none, ts, nt, [], ⟨.leaf, .leaf, 0, []⟩⟩ o.dst (.tup []), nth snaps (countIn ((nth bf i).getD 0) es) with
        | some ts', some m => cond (cond (isEff o.op) (Nat.beq (countIn ((nth bf i).getD 0) es + 1) snaps.length) true) (pass1 P ca ih ops bf es n0 nt (i + 1) l (rs ++ [⟨o, .tup [], ts, none⟩]) (cond (isEff o.op) (snaps ++ [m]) snaps) ts') none
        | _, _ => none)

/-- Are two values the same, at a glance? -/
noncomputable def optEq : Option Nat → Option Nat → Bool
  | none, none => true
  | some a, some b => Nat.beq a b
  | _, _ => false
noncomputable def veqB : Nat → V → V → Bool
  | 0, _, _ => false
  | _ + 1, .bool a, .bool b => cond a b (!b)
  | _ + 1, .int k a, .int j b => keq k j && ieq a b
  | _ + 1, .str a, .str b => beqs a b
  | _ + 1, .nilp, .nilp => true
  | _ + 1, .ptr a b, .ptr c d => Nat.beq a c && Nat.beq b d
  | _ + 1, .nils, .nils => true
  | _ + 1, .sl a b c d e, .sl f g h i j => Nat.beq a f && Nat.beq b g && Nat.beq c h && optEq d i && Nat.beq e j
  | _ + 1, .sle a b c d, .sle e f g h => Nat.beq a e && Nat.beq b f && Nat.beq c g && Nat.beq d h
  | _ + 1, .nilm, .nilm => true
  | _ + 1, .map a, .map b => Nat.beq a b
  | _ + 1, .nilf, .nilf => true
  | _ + 1, .nili, .nili => true
  | _ + 1, .symi k q b, .symi k' q' b' => keq k k' && cond q q' (!q') && Nat.beq b b'
  | _ + 1, .osli b, .osli b' => Nat.beq b b'
  | n + 1, .agg a, .agg b => allB (veqB n) a b
  | n + 1, .tup a, .tup b => allB (veqB n) a b
  | n + 1, .fn (.func f) [] xs, .fn (.func g) [] ys => Nat.beq f g && allB (veqB n) xs ys
  | _ + 1, _, _ => false
where allB (p : V → V → Bool) : List V → List V → Bool
  | [], [] => true
  | a :: l, b :: r => cond (p a b) (allB p l r) false
  | _, _ => false

/-- Then each look into the memory, behind any number of the writing operations. -/
noncomputable def chk (P : Program) (n0 mask : Nat) (rs : List Rec) (r : Rec) : List M → Bool
  | [] => true
  | m :: l => cond (match flt P r.ts (allocs n0 mask m 0 rs) r.o.op with | some (.v v) => veqB 6 v r.v | _ => false) (chk P n0 mask rs r l) false
noncomputable def hiOf' (bf : List Nat) (i : Nat) : List Nat → Nat
  | [] => 0
  | e :: l => cond (bit ((nth bf e).getD 0) i) 0 (hiOf' bf i l + 1)
noncomputable def pass2 (P : Program) (ops : List Oper) (bf es : List Nat) (n0 : Nat) (rs : List Rec) (snaps : List M) : Nat → List Rec → Bool
  | _, [] => true
  | i, r :: l => cond (cond (wants ops r.ts r.o.guard && !(isEff r.o.op) && looks r.o.op && (match r.ao with | none => true | some _ => false))
      (chk P n0 ((nth bf i).getD 0) rs r ((snaps.take (hiOf' bf i es + 1)).drop (countIn ((nth bf i).getD 0) es))) true) (pass2 P ops bf es n0 rs snaps (i + 1) l) false

noncomputable def drawn (P : Program) (ca : CallT) (ih : Code → St → R) (ops : List Oper) (s : St) : Option (List St) :=
  cond (regOk ops && Nat.ble (s.m.n + ops.length) 65536)
    (match pass1 P ca ih ops (befs [] ops) (effIdx 0 ops) s.m.n s.nt 0 ops [] [{ s.m with n := s.m.n + ops.length }] s.ts with
    | some (rs, snaps, ts) => cond (pass2 P ops (befs [] ops) (effIdx 0 ops) s.m.n rs snaps 0 rs)
        (match nth snaps (effIdx 0 ops).length with
        | some m => some [{ s with ts := ts, m := allocs s.m.n (2 ^ ops.length - 1) m 0 rs }]
        | none => none) none
    | none => none) none

noncomputable def region (P : Program) (ca : CallT) (ih : Code → St → R) (ops : List Oper) (draw : Bool) (s : St) : Option (List St) :=
  cond draw (drawn P ca ih ops s) (seqOps P ca ih ops ops s)

/-- The rest of a body, behind whatever came ahead. -/
noncomputable def cont (k : St → R) (p : Ex × St) : R :=
  match p.1 with
  | .normal => k p.2
  | e => some [(e, p.2)]
noncomputable def outOf (id : Nat) (p : Ex × St) : R :=
  match p.1 with
  | .exit j => some [(cond (Nat.beq j id) .normal (.exit j), p.2)]
  | e => some [(e, p.2)]
noncomputable def endLp (ih : Code → St → R) (l : Nat) (s : St) (p : V × M) : R :=
  match look p.2 l with
  | some ⟨.loop st pe fn ts nt ps asg body df, _, _⟩ => match st with
    | .busy => none
    | _ => match p.2.so l (.loop .exhausted pe fn ts nt ps asg body df) with
      | some m => (match pe with
        | none => some [(.normal, { s with m := m })]
        | some j => ih j { s with m := m })
      | none => none
  | _ => none
noncomputable def rangeF (ca : CallT) (ih : Code → St → R) (v : V) (ps : Array Tmp) (asg body : Code) (s : St) : R :=
  match v with
  | .fn (.func f) first cap =>
    cond (Nat.blt (s.m.n + 1) 65536)
    (match s.rnd with
    | none => match ca f (first ++ [.yld (s.m.n + 1)] ++ cap) ((s.m.mk' (.dfd false)).mk' (.loop .ready none s.fn s.ts s.nt ps asg body s.m.n)) with
      | some outs => joinO (endLp ih (s.m.n + 1) { s with d := s.m.n :: s.d }) outs
      | none => none
    | some _ => none) none
  | _ => none

noncomputable def exec10 (P : Program) (ca : CallT) (ih : Code → St → R) : Code → St → R
  | .skip, s => some [(.normal, s)]
  | .label _, s => some [(.normal, s)]
  | .seq a b, s => (match ih a s with
    | some [(.normal, s')] => ih b s'
    | some outs => joinO (cont (ih b)) outs
    | none => none)
  | .cond c a b, s => (match ev s.ts c with
    | some (.bool true) => ih a s
    | some (.bool false) => ih b s
    | _ => none)
  | .block id c, s => (match ih c s with
    | some outs => joinO (outOf id) outs
    | none => none)
  | .loop c, s => (match ih c s with
    | some [(.normal, s')] => ih (.loop c) s'
    | some outs => joinO (cont (ih (.loop c))) outs
    | none => none)
  | .scope c, s => ih c s
  | .exit id, s => some [(.exit id, s)]
  | .ret, s => some [(.ret, s)]
  | .region _ ops draw, s => (match region P ca ih ops.toList draw s with
    | some outs => some (mapR (fun s => (.normal, s)) outs)
    | none => none)
  | .rangeFunc f ps asg body, s => (match ev s.ts f with
    | some v => rangeF ca ih v ps asg body s
    | none => none)
  | _, _ => none
structure CodeBox where
  f : Program → CallT → (Code → St → R) → St → R
noncomputable def codeB (c : Code) : CodeBox :=
  match c with
  | .skip => ⟨fun P ca ih s => some [(.normal, s)]⟩
  | .label _ => ⟨fun P ca ih s => some [(.normal, s)]⟩
  | .seq a b => ⟨fun P ca ih s => (match ih a s with
    | some [(.normal, s')] => ih b s'
    | some outs => joinO (cont (ih b)) outs
    | none => none)⟩
  | .cond c a b => ⟨fun P ca ih s => (match ev s.ts c with
    | some (.bool true) => ih a s
    | some (.bool false) => ih b s
    | _ => none)⟩
  | .block id c => ⟨fun P ca ih s => (match ih c s with
    | some outs => joinO (outOf id) outs
    | none => none)⟩
  | .loop c => ⟨fun P ca ih s => (match ih c s with
    | some [(.normal, s')] => ih (.loop c) s'
    | some outs => joinO (cont (ih (.loop c))) outs
    | none => none)⟩
  | .scope c => ⟨fun P ca ih s => ih c s⟩
  | .exit id => ⟨fun P ca ih s => some [(.exit id, s)]⟩
  | .ret => ⟨fun P ca ih s => some [(.ret, s)]⟩
  | .region _ ops draw => ⟨fun P ca ih s => (match region P ca ih ops.toList draw s with
    | some outs => some (mapR (fun s => (.normal, s)) outs)
    | none => none)⟩
  | .rangeFunc f ps asg body => ⟨fun P ca ih s => (match ev s.ts f with
    | some v => rangeF ca ih v ps asg body s
    | none => none)⟩
  | _ => ⟨fun P ca ih s => none⟩
noncomputable def exec1 (P : Program) (ca : CallT) (ih : Code → St → R) (c : Code) (s : St) : R := (codeB c).f P ca ih s
theorem exec1_eq (P : Program) (ca : CallT) (ih : Code → St → R) (c : Code) (s : St) : exec1 P ca ih c s = exec10 P ca ih c s := by
  unfold exec1 codeB exec10
  cases c <;> rfl
noncomputable def exec (P : Program) (ca : CallT) (n : Nat) : Code → St → R := Nat.rec (fun _ _ => none) (fun _ ih => exec1 P ca ih) n

/-- The marks of a frame that ends. -/
noncomputable def unmark : List Nat → M → Option M
  | [], m => some m
  | b :: l, m => match look m b with
    | some ⟨.dfd false, _, _⟩ => (match m.so b (.dfd true) with | some m' => unmark l m' | none => none)
    | _ => none
noncomputable def resV (P : Program) (ts : T V) (m : M) : List ResultVar → Option (List V)
  | [] => some []
  | .tmp t :: l => (match resV P ts m l with | some r => some ((ts.get DT t).getD (.tup []) :: r) | none => none)
  | .cell a t :: l => (match fLoad P t m ((ts.get DT a).getD (.tup [])), resV P ts m l with
    | some (.v v), some r => some (v :: r)
    | _, _ => none)
def oneOf : List V → V
  | [v] => v
  | l => .tup l
noncomputable def leave (P : Program) (res : List ResultVar) (p : Ex × St) : Option (V × M) :=
  match p.1 with
  | .exit _ => none
  | _ => match unmark p.2.d p.2.m with
    | some m => (match resV P p.2.ts m res with | some l => some (oneOf l, m) | none => none)
    | none => none

/-- Cells without blocks. -/
def bare : V → Bool
  | .bool _ => true
  | .int _ _ => true
  | .str _ => true
  | _ => false
/-- What comes of a call, if it wrote nothing that was there: a bare value, or a slice of such. -/
inductive Pl where
  | v (v : V)
  | s (len : Nat) (cap : Option Nat) (sz : Nat) (cs : List V)
noncomputable def plain (m0 : M) (p : V × M) : Option Pl :=
  cond ((p.2.wl.take (p.2.wl.length - m0.wl.length)).all fun b => Nat.ble m0.n b)
    (cond (bare p.1) (some (.v p.1)) (match p.1 with
      | .sl b 0 len cap sz => (match look p.2 b with
        | some ⟨.cells cs, root, _⟩ => cond (Nat.ble m0.n b && Nat.ble m0.n root && cs.all bare) (some (.s len cap sz cs)) none
        | _ => none)
      | _ => none)) none
noncomputable def plEq : Pl → Pl → Bool
  | .v a, .v b => veqB 2 a b
  | .s l c z cs, .s l' c' z' cs' => Nat.beq l l' && optEq c c' && Nat.beq z z' && veqB.allB (veqB 2) cs cs'
  | _, _ => false
noncomputable def plMem (m0 : M) (n : Nat) : Pl → V × M
  | .v a => (a, { m0 with n := n })
  | .s l c z cs => (.sl n 0 l c z, ({ m0 with n := n } : M).mk' (.cells cs))
noncomputable def plains (m0 : M) : List (V × M) → Option (List Pl)
  | [] => some []
  | p :: l => match plain m0 p, plains m0 l with
    | some a, some r => some (cond (r.any fun b => plEq a b) r (a :: r))
    | _, _ => none
noncomputable def mg (m0 : M) (outs : List (V × M)) : Option (List (V × M)) :=
  match outs with
  | [] => none
  | [p] => some [p]
  | p :: l => match plains m0 (p :: l) with
    | some r => (fun n => cond (Nat.blt n 65536) (some (r.map (plMem m0 n))) none) ((p :: l).foldl (fun n q => max n q.2.n) m0.n)
    | none => none

noncomputable def callB (P : Program) (fuel : Nat) (ca : CallT) : CallT := fun f args m =>
  match mkFun P f with
  | some F => cond (Nat.ble F.nt 512 && Nat.ble args.length F.nt)
    (match exec P ca fuel F.body ⟨f, none, T.ofList DT args, F.nt, [], m⟩ with
    | some outs => (match mapO (leave P F.res) outs with | some r => mg m r | none => none)
    | none => none) none
  | none => none
/-- Calls, some of which are told from outside. -/
noncomputable def callO (P : Program) (orc : CallT) (fuel d : Nat) : CallT := Nat.rec (fun _ _ _ => none) (fun _ ih f args m => match orc f args m with
  | some r => some r
  | none => callB P fuel ih f args m) d
noncomputable def call (P : Program) (fuel d : Nat) : CallT := callO P (fun _ _ _ => none) fuel d

end Go.Proofs.YtdjpjmojmppjkaaGreat.Eng

/- All operations that write nothing that was there, under one name. -/
import Derived.Test.YtdjpjmojmppjkaaGreatFltOk6
namespace Go.Proofs.YtdjpjmojmppjkaaGreat.Eng
open Go

noncomputable def eqRes (op : BinOp) (r : Option Bool) : Option FO :=
  match op with
  | .eql => r.map fun b => .v (.bool b)
  | .neq => r.map fun b => .v (.bool (!b))
  | _ => none
noncomputable def fBin (P : Program) (op : BinOp) (t : TypeId) : V → V → Option FO
  | .int k x, .int k' y => (ibin op k x k' y).map .v
  | .str s, .str u => (sbin op s u).map .v
  | .agg xs, .agg ys => cond (P.eqGuardType P.depth t) none (eqRes op (veq P 20 t (.agg xs) (.agg ys)))
  | .bool x, .bool y => eqRes op (veq P 20 t (.bool x) (.bool y))
  | .fn f xs ys, .nilf => eqRes op (veq P 20 t (.fn f xs ys) .nilf)
  | .nilf, .nilf => eqRes op (veq P 20 t .nilf .nilf)
  | .ptr b o, .nilp => eqRes op (veq P 20 t (.ptr b o) .nilp)
  | .nilp, .nilp => eqRes op (veq P 20 t .nilp .nilp)
  | .sl b o n c z, .nils => eqRes op (veq P 20 t (.sl b o n c z) .nils)
  | .nils, .nils => eqRes op (veq P 20 t .nils .nils)
  | .map b, .nilm => eqRes op (veq P 20 t (.map b) .nilm)
  | .nilm, .nilm => eqRes op (veq P 20 t .nilm .nilm)
  | _, _ => none

def cmpB : BinOp → Bool
  | .eql => true
  | .neq => true
  | .lss => true
  | .leq => true
  | .gtr => true
  | .geq => true
  | _ => false
/-- Is a value a number, known or not? -/
inductive NV where
  | int (k : IntKind) (n : Int)
  | sym (k : IntKind)
  | no
def numV : V → NV
  | .int k n => .int k n
  | .sym k _ => .sym k
  | .symi k _ _ => .sym k
  | _ => .no
theorem numV_int {v : V} {k : IntKind} {n : Int} (h : numV v = .int k n) : v = .int k n := by cases v <;> cases h; rfl
theorem numV_sym {E : Env} {v : V} {k : IntKind} {u : Value} (h : numV v = .sym k) (hr : rep E v = some u) : ∃ n, u = .int k n := by
  cases v <;> cases h
  · cases hr; exact ⟨_, rfl⟩
  · exact rep_symi hr
/-- Numbers that are not known are compared: it is the one or the other. -/
noncomputable def fBinS (P : Program) (op : BinOp) (t : TypeId) (x y : V) : Option FO :=
  match numV x, numV y with
  | .int k a, .int k' b => (match ibin op k a k' b with | some r => some (.v r) | none => none)
  | .sym k, .int k' _ => cond (cmpB op && keq k k') (some .b) none
  | .int k _, .sym k' => cond (cmpB op && keq k k') (some .b) none
  | .sym k, .sym k' => cond (cmpB op && keq k k') (some .b) none
  | _, _ => fBin P op t x y

noncomputable def fEntry (m : M) : V → Option FO
  | .ptr b 0 => match look m b with
    | some ⟨.iter mb _ seen st, _, _⟩ => match seen.getLast?, look m mb with
      | some stamp, some ⟨.map es clock, _, _⟩ => cond (Nat.beq clock st)
          (match es.find? (fun e => Nat.beq e.2.2 stamp) with
          | some (k, v, _) => some (.v (.tup [k, v]))
          | none => none) none
      | _, _ => none
    | _ => none
  | _ => none

noncomputable def fRange (P : Program) (t : TypeId) (m : M) (x : V) : Option FO :=
  match mkTy P t with
  | some ⟨.map _ _, _, _, _⟩ => match x with
    | .nilm => some (.a .iter0 (fun b => .ptr b 0))
    | .map mb => match look m mb with
      | some ⟨.map _ clock, _, _⟩ => some (.a (.iter mb clock [] clock) (fun b => .ptr b 0))
      | _ => none
    | _ => none
  | _ => none

noncomputable def fExtract (i : Nat) : V → Option FO
  | .tup vs => (nth vs i).map .v
  | _ => none

noncomputable def fIface (P : Program) (t : TypeId) (x : V) : Option FO :=
  match mkTy P t with
  | some y => (match y.u with
    | .interface _ => none
    | _ => some (.v (.iface t x)))
  | none => none

/-- x.(T) of a type T that is no interface, where x has it. -/
noncomputable def fAssert (P : Program) (t : TypeId) : V → Option FO
  | .iface t' v => cond (Nat.beq t' t) (match mkTy P t with
    | some y => (match y.u with
      | .interface _ => none
      | _ => some (.v v))
    | none => none) none
  | _ => none

/-- An operand that may be missing: 'some none' is none. -/
noncomputable def evo (ts : T V) : Option Operand → Option (Option V)
  | none => some none
  | some x => match ev ts x with
    | some v => some (some v)
    | none => none

noncomputable def fBuiltin (P : Program) (m : M) (b : Builtin) (ats : List TypeId) (args : List V) : Option FO :=
  match b, ats, args with
  | .len, t :: _, [x] => fLen P t m x
  | .max, _, x :: l => (mxmn true x l).map .v
  | .min, _, x :: l => (mxmn false x l).map .v
  | _, _, _ => none

/-- x[lo:hi:mx], where hi may lie behind the slice's end, within what is known of its row. -/
noncomputable def fSliceM (P : Program) (t : TypeId) (m : M) (x : V) (lo hi mx : Option V) : Option FO :=
  match x, hi with
  | .sl b o len none sz, some (.int _ (.ofNat h)) => cond (Nat.blt len h) (match look m b with
    | some ⟨.cells c0, _, _⟩ => cond (Nat.ble (o + h * sz) c0.length) (fSlice P t (.sl b o h none sz) lo hi mx) none
    | _ => none) (fSlice P t x lo hi mx)
  | _, _ => fSlice P t x lo hi mx

/-- An operation that writes nothing. -/
noncomputable def flt0 (P : Program) (ts : T V) (m : M) (op : Op) : Option FO :=
  match op with
  | .move x => (ev ts x).map .v
  | .assign x => (ev ts x).map .v
  | .pick c a b => (match ev ts c with
    | some (.bool true) => (ev ts a).map .v
    | some (.bool false) => (ev ts b).map .v
    | _ => none)
  | .alloc t => (match mkTy P t with
    | some ⟨_, _, _, some z⟩ => some (.a (.cells (cellsV z)) (fun b => .ptr b 0))
    | _ => none)
  | .box _ x => (ev ts x).map fun v => .a (.cells (cellsV v)) (fun b => .ptr b 0)
  | .build t parts => (match evParts ts parts.toList with | some l => fBuild P t l | none => none)
  | .buildSlice t n parts => (match evParts ts parts.toList with | some l => fBuildSlice P t n l | none => none)
  | .load t a => (match ev ts a with | some v => fLoad P t m v | none => none)
  | .nilCheck x => (match ev ts x with | some v => fNil v | none => none)
  | .binOp op t x y _ => (match ev ts x, ev ts y with | some a, some b => fBinS P op t a b | _, _ => none)
  | .unOp op _ x => (match ev ts x with | some v => fUn op v | none => none)
  | .convert s d x => (match ev ts x with | some v => fConvert P s d m v | none => none)
  | .makeInterface t x => (match ev ts x with | some v => fIface P t v | none => none)
  | .makeFunc f first cap => (match evs ts first.toList, evs ts cap.toList with | some a, some b => some (.v (.fn f a b)) | _, _ => none)
  | .makeMap _ none => some (.a (.map [] 0) (fun b => .map b))
  | .makeSlice t l c => (match ev ts l, ev ts c with | some a, some b => fMakeSlice P t a b | _, _ => none)
  | .slice t x lo hi mx => (match ev ts x, evo ts lo, evo ts hi, evo ts mx with | some v, some a, some b, some c => fSliceM P t m v a b c | _, _, _, _ => none)
  | .fieldAddr s x f => (match ev ts x with | some v => fFieldAddr P s f v | none => none)
  | .field s x f => (match ev ts x with | some v => fField P s f v | none => none)
  | .indexAddr t x i => (match ev ts x, ev ts i with | some a, some b => fIndexAddr P t a b | _, _ => none)
  | .index t x i => (match ev ts x, ev ts i with | some a, some b => fIndex P t a b | _, _ => none)
  | .lookup t x k ok => (match ev ts x, ev ts k with | some a, some b => fLookup P t m a b ok | _, _ => none)
  | .range t x => (match ev ts x with | some v => fRange P t m v | none => none)
  | .entry it => (match ev ts it with | some v => fEntry m v | none => none)
  | .typeAssert x _ t false => (match ev ts x with | some v => fAssert P t v | none => none)
  | .extract x i => (match ev ts x with | some v => fExtract i v | none => none)
  | .call ⟨.builtin b, args, ats⟩ => (match evs ts args.toList with | some l => fBuiltin P m b ats.toList l | none => none)
  | _ => none
/-- The same by boxes: an operation of the program is looked up once. -/
structure ArmBox where
  f : Program → T V → M → Option FO
noncomputable def fltB (op : Op) : ArmBox :=
  match op with
  | .move x => ⟨fun P ts m => (ev ts x).map .v⟩
  | .assign x => ⟨fun P ts m => (ev ts x).map .v⟩
  | .pick c a b => ⟨fun P ts m => (match ev ts c with
    | some (.bool true) => (ev ts a).map .v
    | some (.bool false) => (ev ts b).map .v
    | _ => none)⟩
  | .alloc t => ⟨fun P ts m => (match mkTy P t with
    | some ⟨_, _, _, some z⟩ => some (.a (.cells (cellsV z)) (fun b => .ptr b 0))
    | _ => none)⟩
  | .box _ x => ⟨fun P ts m => (ev ts x).map fun v => .a (.cells (cellsV v)) (fun b => .ptr b 0)⟩
  | .build t parts => ⟨fun P ts m => (match evParts ts parts.toList with | some l => fBuild P t l | none => none)⟩
  | .buildSlice t n parts => ⟨fun P ts m => (match evParts ts parts.toList with | some l => fBuildSlice P t n l | none => none)⟩
  | .load t a => ⟨fun P ts m => (match ev ts a with | some v => fLoad P t m v | none => none)⟩
  | .nilCheck x => ⟨fun P ts m => (match ev ts x with | some v => fNil v | none => none)⟩
  | .binOp op t x y _ => ⟨fun P ts m => (match ev ts x, ev ts y with | some a, some b => fBinS P op t a b | _, _ => none)⟩
  | .unOp op _ x => ⟨fun P ts m => (match ev ts x with | some v => fUn op v | none => none)⟩
  | .convert s d x => ⟨fun P ts m => (match ev ts x with | some v => fConvert P s d m v | none => none)⟩
  | .makeInterface t x => ⟨fun P ts m => (match ev ts x with | some v => fIface P t v | none => none)⟩
  | .makeFunc f first cap => ⟨fun P ts m => (match evs ts first.toList, evs ts cap.toList with | some a, some b => some (.v (.fn f a b)) | _, _ => none)⟩
  | .makeMap _ none => ⟨fun P ts m => some (.a (.map [] 0) (fun b => .map b))⟩
  | .makeSlice t l c => ⟨fun P ts m => (match ev ts l, ev ts c with | some a, some b => fMakeSlice P t a b | _, _ => none)⟩
  | .slice t x lo hi mx => ⟨fun P ts m => (match ev ts x, evo ts lo, evo ts hi, evo ts mx with | some v, some a, some b, some c => fSliceM P t m v a b c | _, _, _, _ => none)⟩
  | .fieldAddr s x f => ⟨fun P ts m => (match ev ts x with | some v => fFieldAddr P s f v | none => none)⟩
  | .field s x f => ⟨fun P ts m => (match ev ts x with | some v => fField P s f v | none => none)⟩
  | .indexAddr t x i => ⟨fun P ts m => (match ev ts x, ev ts i with | some a, some b => fIndexAddr P t a b | _, _ => none)⟩
  | .index t x i => ⟨fun P ts m => (match ev ts x, ev ts i with | some a, some b => fIndex P t a b | _, _ => none)⟩
  | .lookup t x k ok => ⟨fun P ts m => (match ev ts x, ev ts k with | some a, some b => fLookup P t m a b ok | _, _ => none)⟩
  | .range t x => ⟨fun P ts m => (match ev ts x with | some v => fRange P t m v | none => none)⟩
  | .entry it => ⟨fun P ts m => (match ev ts it with | some v => fEntry m v | none => none)⟩
  | .typeAssert x _ t false => ⟨fun P ts m => (match ev ts x with | some v => fAssert P t v | none => none)⟩
  | .extract x i => ⟨fun P ts m => (match ev ts x with | some v => fExtract i v | none => none)⟩
  | .call ⟨.builtin b, args, ats⟩ => ⟨fun P ts m => (match evs ts args.toList with | some l => fBuiltin P m b ats.toList l | none => none)⟩
  | _ => ⟨fun P ts m => none⟩
noncomputable def flt (P : Program) (ts : T V) (m : M) (op : Op) : Option FO := (fltB op).f P ts m
theorem flt_eq (P : Program) (ts : T V) (m : M) (op : Op) : flt P ts m op = flt0 P ts m op := by
  unfold flt fltB flt0
  cases op <;> try rfl
  case makeMap t r => cases r <;> rfl
  case typeAssert x a b ok => cases ok <;> rfl
  case call c => obtain ⟨callee, args, ats⟩ := c; cases callee <;> rfl

end Go.Proofs.YtdjpjmojmppjkaaGreat.Eng

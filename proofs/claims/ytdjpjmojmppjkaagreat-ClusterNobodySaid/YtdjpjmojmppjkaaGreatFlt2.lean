/- More operations that write nothing: equality, maps, conversions, lengths; all of them under one name. -/
import Derived.Test.YtdjpjmojmppjkaaGreatFltOk3
import Derived.Laws.StructEq
namespace Go.Proofs.YtdjpjmojmppjkaaGreat.Eng
open Go

/-- Are two keys the same? -/
noncomputable def keyeq : V → V → Option Bool
  | .int k a, .int k' b => cond (keq k k') (some (ieq a b)) none
  | .str s, .str t => some (beqs s t)
  | .bool a, .bool b => some (cond a b (!b))
  | _, _ => none
def keyD : TypeDesc → V → Bool
  | .int _, .int _ _ => true
  | .string, .str _ => true
  | .bool, .bool _ => true
  | _, _ => false
noncomputable def mfind (k : V) : List (V × V × Nat) → Nat → Option (Option (Nat × V))
  | [], _ => some none
  | (k', v, _) :: es, i => match keyeq k k' with
    | some true => some (some (i, v))
    | some false => mfind k es (i + 1)
    | none => none

noncomputable def mapOf (m : M) : V → Option (List (V × V × Nat))
  | .nilm => some []
  | .map b => (match look m b with | some ⟨.map es _, _, _⟩ => some es | _ => none)
  | _ => none

noncomputable def fLookup (P : Program) (t : TypeId) (m : M) (x k : V) (ok : Bool) : Option FO :=
  match mkTy P t with
  | some ⟨.map kt et, _, _, _⟩ =>
    match mkTy P kt, mapOf m x with
    | some yk, some es => cond (keyD yk.u k)
        (match mfind k es 0 with
        | some (some (_, v)) => some (.v (cond ok (.tup [v, .bool true]) v))
        | some none => (match mkTy P et with
          | some ⟨_, _, _, some z⟩ => some (.v (cond ok (.tup [z, .bool false]) z))
          | _ => none)
        | none => none) none
    | _, _ => none
  | _ => none

def byteOf : V → Option UInt8
  | .int .u8 (.ofNat n) => some (UInt8.ofNat n)
  | _ => none
noncomputable def bytesOf : List V → Option (List UInt8)
  | [] => some []
  | v :: l => match byteOf v with
    | some c => (match bytesOf l with | some r => some (c :: r) | none => none)
    | none => none
noncomputable def u8s : List UInt8 → List V := fun l => List.rec [] (fun c _ ih => .int .u8 (.ofNat c.toNat) :: ih) l

noncomputable def fConvert (P : Program) (src dst : TypeId) (m : M) (x : V) : Option FO :=
  match mkTy P src, mkTy P dst with
  | some ys, some yd =>
    match yd.u, x with
    | .int k, .int _ n => (match ys.u with | .int _ => some (.v (.int k (fw k n))) | _ => none)
    | .string, .str s => (match ys.u with | .string => some (.v (.str s)) | _ => none)
    | .string, .nils => (match ys.u with | .slice e => (match mkTy P e with | some ⟨.int .u8, _, _, _⟩ => some (.v (.str [])) | _ => none) | _ => none)
    | .string, .sle _ _ _ _ => (match ys.u with | .slice e => (match mkTy P e with | some ⟨.int .u8, _, _, _⟩ => some (.v (.str [])) | _ => none) | _ => none)
    | .string, .sl b o len _ _ => (match ys.u with
      | .slice e => (match mkTy P e with
        | some ⟨.int .u8, _, _, _⟩ => (match rd m b o len with
          | some l => (match bytesOf l with | some s => some (.v (.str s)) | none => none)
          | none => none)
        | _ => none)
      | _ => none)
    | .slice e, .str s => (match ys.u with
      | .string => (match mkTy P e with
        | some ⟨.int .u8, sz, _, _⟩ => cond (Nat.beq sz 1) (some (.a (.cells (u8s s)) (fun b => .sl b 0 s.length none 1))) none
        | _ => none)
      | _ => none)
    | _, _ => none
  | _, _ => none

noncomputable def fLen (P : Program) (t : TypeId) (m : M) (x : V) : Option FO :=
  match mkTy P t with
  | some ⟨.string, _, _, _⟩ => (match x with | .str s => some (.v (.int .i64 (.ofNat s.length))) | _ => none)
  | some ⟨.array n _, _, _, _⟩ => some (.v (.int .i64 (.ofNat n)))
  | some ⟨.slice _, _, _, _⟩ => (match x with
    | .nils => some (.v (.int .i64 0))
    | .sl _ _ n _ _ => some (.v (.int .i64 (.ofNat n)))
    | .sle _ _ _ _ => some (.v (.int .i64 0))
    | .osl _ n _ => some (.v (.sym .i64 (.ofNat n)))
    | .osli b => some (.v (.symi .i64 true b))
    | _ => none)
  | some ⟨.map _ _, _, _, _⟩ => (match mapOf m x with | some es => some (.v (.int .i64 (.ofNat es.length))) | none => none)
  | some ⟨.pointer a, _, _, _⟩ => (match mkTy P a with | some ⟨.array n _, _, _, _⟩ => some (.v (.int .i64 (.ofNat n))) | _ => none)
  | _ => none

noncomputable def mxmn (mx : Bool) : V → List V → Option V
  | .int k x, [] => some (.int k x)
  | .int k x, .int _ y :: l => mxmn mx (cond (cond mx (ilt x y) (ilt y x)) (.int k y) (.int k x)) l
  | _, _ => none

noncomputable def fUn (op : UnOp) : V → Option FO
  | .int k n => (match op with
    | .neg => some (.v (.int k (fw k (0 - n))))
    | .xor => (ibits .xor k (if k.signed then -1 else k.max) n).map fun r => .v (.int k r)
    | _ => none)
  | .bool b => (match op with | .not => some (.v (.bool (!b))) | _ => none)
  | _ => none

/-- Equality of structs, field by field. -/
noncomputable def feq (P : Program) (eqf : TypeId → V → V → Option Bool) (xs ys : List V) : List Field → Option Bool
  | [] => some true
  | f :: fs => cond (f.name == "_") none
      (match mkTy P f.type with
      | some yf => (match partV yf xs f.offset, partV yf ys f.offset with
        | some a, some b => (match eqf f.type a b with
          | some true => feq P eqf xs ys fs
          | some false => some false
          | none => none)
        | _, _ => none)
      | none => none)

/-- Equality of arrays, one by one. -/
noncomputable def aeq (eqf : V → V → Option Bool) (ye : Ty) (xs ys : List V) : List Nat → Option Bool
  | [] => some true
  | i :: l => match partV ye xs (i * ye.size), partV ye ys (i * ye.size) with
    | some a, some b => (match eqf a b with
      | some true => aeq eqf ye xs ys l
      | some false => some false
      | none => none)
    | _, _ => none

/-- Equality of values of a type. -/
noncomputable def veq (P : Program) : Nat → TypeId → V → V → Option Bool
  | 0, _, _, _ => none
  | d + 1, t, x, y =>
    match mkTy P t with
    | some yt => (match yt.u with
      | .int _ => (match x, y with | .int k a, .int k' b => cond (keq k k') (some (ieq a b)) none | _, _ => none)
      | .bool => (match x, y with | .bool a, .bool b => some (a == b) | _, _ => none)
      | .string => (match x, y with | .str a, .str b => some (beqs a b) | _, _ => none)
      | .pointer _ => (match x, y with
        | .nilp, .nilp => some true
        | .nilp, .ptr _ _ => some false
        | .ptr _ _, .nilp => some false
        | _, _ => none)
      | .slice _ => (match x, y with
        | .nils, .nils => some true
        | .nils, .sl _ _ _ _ _ => some false
        | .sl _ _ _ _ _, .nils => some false
        | .sle _ _ _ _, .nils => some false
        | _, _ => none)
      | .map _ _ => (match x, y with
        | .nilm, .nilm => some true
        | .nilm, .map _ => some false
        | .map _, .nilm => some false
        | _, _ => none)
      | .func _ _ _ => (match x, y with
        | .nilf, .nilf => some true
        | .nilf, .fn _ _ _ => some false
        | .fn _ _ _, .nilf => some false
        | _, _ => none)
      | .struct fs => (match x, y with
        | .agg xs, .agg ys => cond (P.stoodInHeld t) none (feq P (veq P d) xs ys fs.toList)
        | _, _ => none)
      | .array n e => (match x, y with
        | .agg xs, .agg ys => (match mkTy P e with | some ye => aeq (veq P d e) ye xs ys (List.range n) | none => none)
        | _, _ => none)
      | _ => none)
    | none => none

end Go.Proofs.YtdjpjmojmppjkaaGreat.Eng

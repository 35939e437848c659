/- Operations that write nothing that was there. -/
import Derived.Test.YtdjpjmojmppjkaaGreatSca
import GoSem.Dispatch
namespace Go.Proofs.YtdjpjmojmppjkaaGreat.Eng
open Go

structure Ty where
  u : TypeDesc
  size : Nat
  bytes : Nat
  zero : Option V

/-- The table of types, as a tree. -/
noncomputable def infoT (P : Program) (t : TypeId) : Option TypeInfo := cond (Nat.ble P.types.size 4096) ((T.ofList 12 P.types.toList).get 12 t) none
theorem infoT_ok {P : Program} {t : TypeId} {i : TypeInfo} (h : infoT P t = some i) : P.info? t = some i := by
  unfold infoT at h
  cases hc : Nat.ble P.types.size 4096 with
  | false => rw [hc] at h; cases h
  | true =>
    rw [hc] at h
    have h' : (T.ofList 12 P.types.toList).get 12 t = some i := h
    rw [T.get_ofList 12 _ (by rw [Array.length_toList]; exact Nat.le_of_ble_eq_true hc), Array.getElem?_toList] at h'
    have hlt : t < P.types.size := (Array.getElem?_eq_some_iff.1 h').1
    show (if t < P.types.size then P.types[t]? else _) = _
    rw [if_pos hlt]; exact h'
noncomputable def descT (P : Program) (i : TypeInfo) : Option TypeDesc :=
  match i.desc with
  | .named _ u => (match infoT P u with | some j => some j.desc | none => none)
  | d => some d
noncomputable def mkTy (P : Program) (t : TypeId) : Option Ty :=
  match infoT P t with
  | some i => (match descT P i with
    | some u => some ⟨u, i.size, i.bytes, i.zero.bind (ofVal 8)⟩
    | none => none)
  | none => none

structure TyOk (P : Program) (t : TypeId) (y : Ty) : Prop where
  u : P.underlying t = some y.u
  info : ∃ i, P.info? t = some i ∧ i.size = y.size ∧ i.bytes = y.bytes ∧ ∀ z, y.zero = some z → ∃ Z, i.zero = some Z ∧ ∀ E, rep E z = some Z
theorem tyOk {P : Program} {t : TypeId} {y : Ty} (h : mkTy P t = some y) : TyOk P t y := by
  unfold mkTy at h
  split at h
  case h_2 => cases h
  rename_i i hi
  split at h
  case h_2 => cases h
  rename_i u hu
  cases h
  have hi' := infoT_ok hi
  refine ⟨?_, i, hi', rfl, rfl, fun z hz => ?_⟩
  · unfold Program.underlying
    rw [hi']
    unfold descT at hu
    obtain ⟨desc, _⟩ := i
    dsimp only at hu ⊢
    split at hu
    · rename_i n v
      split at hu
      · rename_i j hj
        cases hu
        show Option.map _ (P.info? v) = _
        rw [infoT_ok hj]; rfl
      · cases hu
    · rename_i hnn
      cases hu
      split
      · rename_i heq
        cases heq
        exact absurd rfl (hnn _ _)
      · rename_i heq; cases heq; rfl
      · rename_i heq; cases heq
  · simp only [Option.bind_eq_some_iff] at hz
    obtain ⟨Z, hZ, hz⟩ := hz
    exact ⟨Z, hZ, fun E => rep_ofVal _ _ _ hz⟩

def aggD : TypeDesc → Bool
  | .struct _ => true
  | .array _ _ => true
  | _ => false

def cellsV : V → List V
  | .agg cs => cs
  | v => [v]
theorem cellsV_rep {E : Env} {v : V} {u : Value} (h : rep E v = some u) : reps E (cellsV v) = some u.cells.toList := by
  have one : ∀ {v : V} {u : Value}, rep E v = some u → u.cells = #[u] → cellsV v = [v] → reps E (cellsV v) = some u.cells.toList := by
    intro v u h h1 h2
    rw [h1, h2]
    exact reps_cons h rfl
  cases v with
  | agg cs =>
    simp only [rep, Option.map_eq_some_iff] at h
    obtain ⟨a, ha, rfl⟩ := h
    exact ha
  | bool b => cases h; exact reps_cons rfl rfl
  | int k n => cases h; exact reps_cons rfl rfl
  | str s => cases h; exact reps_cons rfl rfl
  | nilp => cases h; exact reps_cons rfl rfl
  | ptr b o =>
    have h' := h
    simp only [rep, Option.map_eq_some_iff] at h'
    obtain ⟨x, _, rfl⟩ := h'
    exact one h rfl rfl
  | nils => cases h; exact reps_cons rfl rfl
  | sl b o len cap sz =>
    have h' := h
    simp only [rep, Option.bind_eq_some_iff] at h'
    obtain ⟨x, _, h'⟩ := h'
    cases cap with
    | some c => cases h'; exact one h rfl rfl
    | none =>
      dsimp only at h'
      split at h'
      · cases h'; exact one h rfl rfl
      · cases h'
  | sle b o l sz =>
    have h' := h
    simp only [rep, Option.bind_eq_some_iff] at h'
    obtain ⟨x, _, h'⟩ := h'
    split at h'
    · cases h'; exact one h (by split <;> rfl) rfl
    · cases h'
  | nilm => cases h; exact reps_cons rfl rfl
  | map b =>
    have h' := h
    simp only [rep, Option.map_eq_some_iff] at h'
    obtain ⟨x, _, rfl⟩ := h'
    exact one h rfl rfl
  | fn f xs ys =>
    have h' := h
    simp only [rep, Option.bind_eq_some_iff, Option.map_eq_some_iff] at h'
    obtain ⟨a, _, c, _, rfl⟩ := h'
    exact one h rfl rfl
  | yld l =>
    have h' := h
    simp only [rep, Option.map_eq_some_iff] at h'
    obtain ⟨x, _, rfl⟩ := h'
    exact one h rfl rfl
  | nilf => cases h; exact reps_cons rfl rfl
  | iface t v =>
    have h' := h
    simp only [rep, Option.map_eq_some_iff] at h'
    obtain ⟨x, _, rfl⟩ := h'
    exact one h rfl rfl
  | nili => cases h; exact reps_cons rfl rfl
  | tup vs =>
    have h' := h
    simp only [rep, Option.map_eq_some_iff] at h'
    obtain ⟨x, _, rfl⟩ := h'
    exact one h rfl rfl
  | sym k n => cases h; exact reps_cons rfl rfl
  | osl a n c => cases h; exact reps_cons rfl rfl
  | tok b c =>
    have h' := h
    simp only [rep, Option.map_eq_some_iff] at h'
    obtain ⟨x, _, rfl⟩ := h'
    exact one h rfl rfl
  | symi k q b =>
    obtain ⟨n, rfl⟩ := rep_symi h
    exact one h rfl rfl
  | osli b =>
    obtain ⟨a, n, c, rfl, _⟩ := rep_osli h
    exact one h rfl rfl

/-- An operand. -/
noncomputable def ev (ts : T V) : Operand → Option V
  | .tmp t => some ((ts.get DT t).getD (.tup []))
  | .const v => ofVal 8 v
  | .func f => some (.fn (.func f) [] [])
  | .global _ => none

noncomputable def evsC (ts : T V) (x : Operand) (_ : List Operand) (ih : Option (List V)) : Option (List V) :=
  match ev ts x with
    | some v => (match ih with
      | some r => some (v :: r)
      | none => none)
    | none => none
noncomputable def evs (ts : T V) (l : List Operand) : Option (List V) := List.rec (motive := fun _ => Option (List V)) (some []) (evsC ts) l
theorem evs_nil (ts : T V) : evs ts [] = some [] := rfl
theorem evs_cons (ts : T V) (x : Operand) (l : List Operand) : evs ts (x :: l) = match ev ts x with
    | some v => (match evs ts l with
      | some r => some (v :: r)
      | none => none)
    | none => none := rfl

/-- What an operation without writes tells: a value; or a new block, and the value that names it. -/
inductive FO where
  | v (v : V)
  | a (o : AO) (k : Nat → V)
  | b

/-- Cells that lie one behind the other. -/
noncomputable def sub (cs : List V) (o n : Nat) : Option (List V) :=
  (fun r => cond (Nat.beq (lnR r) n) (some r) none) (tkR (drR cs o) n)

noncomputable def rd (m : M) (b o n : Nat) : Option (List V) :=
  match look m b with
  | some ⟨.cells cs, _, _⟩ => sub cs o n
  | _ => none

noncomputable def ldAs (y : Ty) (l : List V) : Option V :=
  match aggD y.u with
  | true => some (.agg l)
  | false => match l with
    | [v] => some v
    | _ => none

noncomputable def fLoad (P : Program) (t : TypeId) (m : M) : V → Option FO
  | .ptr b o => match mkTy P t with
    | some y => cond (aggD y.u)
        (match rd m b o y.size with | some l => some (.v (.agg l)) | none => none)
        (match rd m b o 1 with | some [v] => some (.v v) | _ => none)
    | none => none
  | _ => none

noncomputable def fNil : V → Option FO
  | .ptr b o => some (.v (.ptr b o))
  | .iface t v => some (.v (.iface t v))
  | .fn (.func f) xs ys => some (.v (.fn (.func f) xs ys))
  | .yld l => some (.v (.yld l))
  | .map b => some (.v (.map b))
  | .nilm => some (.v .nilm)
  | .sl b o n c z => some (.v (.sl b o n c z))
  | .sle b o n z => some (.v (.sle b o n z))
  | .nils => some (.v .nils)
  | _ => none

/-- Parts into cells. -/
noncomputable def fillV (place : Nat → Option (Nat × Nat)) : List (Nat × V) → List V → Option (List V)
  | [], cells => some cells
  | (i, v) :: rest, cells =>
    match place i with
    | some (off, size) =>
      cond (Nat.beq (lnR (cellsV v)) size && Nat.ble (off + size) (lnR cells)) (fillV place rest (apR (tkR cells off) (apR (cellsV v) (drR cells (off + size))))) none
    | none => none

noncomputable def places (P : Program) : List Field → Option (List (Nat × Nat))
  | [] => some []
  | f :: fs => match mkTy P f.type with
    | some y => (match places P fs with | some r => some ((f.offset, y.size) :: r) | none => none)
    | none => none

noncomputable def fBuild (P : Program) (t : TypeId) (parts : List (Nat × V)) : Option FO :=
  match mkTy P t with
  | some ⟨.struct fs, _, _, some z⟩ =>
    match places P fs.toList with
    | some ps => (match fillV (nth ps) parts (cellsV z) with | some cs => some (.v (.agg cs)) | none => none)
    | none => none
  | some ⟨.array _ e, _, _, some z⟩ =>
    match mkTy P e with
    | some ye => (match fillV (fun i => some (i * ye.size, ye.size)) parts (cellsV z) with | some cs => some (.v (.agg cs)) | none => none)
    | none => none
  | _ => none

noncomputable def repl (z : List V) : Nat → List V := fun n => Nat.rec [] (fun _ ih => apR z ih) n

noncomputable def fBuildSlice (P : Program) (t : TypeId) (len : Nat) (parts : List (Nat × V)) : Option FO :=
  match mkTy P t with
  | some ⟨.slice e, _, _, _⟩ =>
    match mkTy P e with
    | some ⟨_, sz, _, some z⟩ =>
      cond (Nat.ble (len * sz) 100000 && Nat.blt 0 sz && Nat.beq (cellsV z).length sz)
        (match fillV (fun i => some (i * sz, sz)) parts (repl (cellsV z) len) with | some cs => some (.a (.cells cs) (fun b => .sl b 0 len (some len) sz)) | none => none) none
    | _ => none
  | _ => none

noncomputable def fMakeSlice (P : Program) (t : TypeId) : V → V → Option FO
  | .int _ (.ofNat l), .int _ (.ofNat c) => match mkTy P t with
    | some ⟨.slice e, _, _, _⟩ =>
      match mkTy P e with
      | some ⟨_, sz, by_, some z⟩ =>
        cond (Nat.ble l c && Nat.ble (by_ * c) 281474976710656 && Nat.ble c 1000000 && Nat.blt 0 sz && Nat.beq (cellsV z).length sz) (some (.a (.cells (repl (cellsV z) c)) (fun b => .sl b 0 l (some c) sz))) none
      | _ => none
    | _ => none
  | _, _ => none

noncomputable def fieldOf (P : Program) (s : TypeId) (f : Nat) : Option (Nat × Ty) :=
  match mkTy P s with
  | some ⟨.struct fs, _, _, _⟩ => match nth fs.toList f with
    | some fd => (match mkTy P fd.type with | some y => some (fd.offset, y) | none => none)
    | none => none
  | _ => none

noncomputable def fFieldAddr (P : Program) (s : TypeId) (f : Nat) : V → Option FO
  | .ptr b o => match fieldOf P s f with
    | some (off, y) => cond (Nat.beq y.size 0) none (some (.v (.ptr b (o + off))))
    | none => none
  | _ => none

noncomputable def partV (y : Ty) (cs : List V) (off : Nat) : Option V :=
  cond (aggD y.u) (some (.agg (tkR (drR cs off) y.size))) (nth cs off)

noncomputable def fField (P : Program) (s : TypeId) (f : Nat) : V → Option FO
  | .agg cs => match fieldOf P s f with
    | some (off, y) => (partV y cs off).map .v
    | none => none
  | _ => none

noncomputable def fIndexAddr (P : Program) (t : TypeId) : V → V → Option FO
  | .ptr b o, .int _ (.ofNat i) => match mkTy P t with
    | some ⟨.array len e, _, _, _⟩ => match mkTy P e with
      | some y => cond (Nat.blt i len) (some (.v (.ptr b (o + i * y.size)))) none
      | none => none
    | _ => none
  | .sl b o len _ _, .int _ (.ofNat i) => match mkTy P t with
    | some ⟨.slice e, _, _, _⟩ => match mkTy P e with
      | some y => cond (Nat.blt i len) (some (.v (.ptr b (o + i * y.size)))) none
      | none => none
    | _ => none
  | _, _ => none

noncomputable def fIndex (P : Program) (t : TypeId) : V → V → Option FO
  | .str s, .int _ (.ofNat i) => match mkTy P t with
    | some ⟨.string, _, _, _⟩ => (match nth s i with | some c => some (.v (.int .u8 (.ofNat c.toNat))) | none => none)
    | _ => none
  | .agg cs, .int _ (.ofNat i) => match mkTy P t with
    | some ⟨.array len e, _, _, _⟩ => match mkTy P e with
      | some y => cond (Nat.blt i len) ((partV y cs (i * y.size)).map .v) none
      | none => none
    | _ => none
  | _, _ => none

noncomputable def bnd : Option V → Nat → Option Nat
  | none, d => some d
  | some (.int _ (.ofNat n)), _ => some n
  | _, _ => none

/-- What a slice [l:h:m] of a row with n elements is, that begins at o. -/
noncomputable def cut (b o l h m sz : Nat) : V := cond (Nat.beq m l) (.sl b o (h - l) (some (m - l)) sz) (.sl b (o + l * sz) (h - l) (some (m - l)) sz)

/-- x[lo:hi:mx]. -/
noncomputable def fSlice (P : Program) (t : TypeId) (x : V) (lo hi : Option V) (mx : Option V) : Option FO :=
  match mkTy P t with
  | some ⟨.string, _, _, _⟩ => match x, mx with
    | .str s, none => match bnd lo 0, bnd hi s.length with
      | some l, some h => cond (Nat.ble l h && Nat.ble h s.length) (some (.v (.str ((s.take h).drop l)))) none
      | _, _ => none
    | _, _ => none
  | some ⟨.array n e, _, _, _⟩ => match x with
    | .ptr b o => match mkTy P e with
      | some y => match bnd lo 0, bnd hi n, bnd mx n with
        | some l, some h, some m => cond (Nat.ble l h && Nat.ble h m && Nat.ble m n && Nat.blt 0 y.size && (cond hi.isNone mx.isNone true)) (some (.v (cut b o l h m y.size))) none
        | _, _, _ => none
      | none => none
    | _ => none
  | some ⟨.slice e, _, _, _⟩ => match x with
    | .sl b o len (some c) sz => match mkTy P e with
      | some y => match bnd lo 0, bnd hi len, bnd mx c with
        | some l, some h, some m => cond (Nat.ble l h && Nat.ble h m && Nat.ble m c && Nat.beq y.size sz && (cond hi.isNone mx.isNone true)) (some (.v (cut b o l h m sz))) none
        | _, _, _ => none
      | none => none
    | .sl b o len none sz => match mkTy P e with
      | some y => match bnd lo 0, bnd hi len with
        | some l, some h =>
          cond (Nat.ble l h && Nat.ble h len && Nat.beq y.size sz && Nat.blt 0 sz)
            (match mx with
              | none => cond (Nat.blt l len) (some (.v (.sl b (o + l * sz) (h - l) none sz))) (some (.v (.sle b o len sz)))
              | some mv => cond hi.isNone none (match bnd (some mv) 0 with
                | some m => cond (Nat.ble h m && Nat.ble m len) (some (.v (cut b o l h m sz))) none
                | none => none)) none
        | _, _ => none
      | none => none
    | .nils => match mkTy P e with
      | some _ => match bnd lo 0, bnd hi 0, bnd mx 0 with
        | some 0, some 0, some 0 => cond (cond hi.isNone mx.isNone true) (some (.v .nils)) none
        | _, _, _ => none
      | none => none
    | _ => none
  | _ => none

end Go.Proofs.YtdjpjmojmppjkaaGreat.Eng

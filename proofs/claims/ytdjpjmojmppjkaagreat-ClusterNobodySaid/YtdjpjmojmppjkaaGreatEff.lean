/- Operations that write. -/
import Derived.Test.YtdjpjmojmppjkaaGreatFltOk7
namespace Go.Proofs.YtdjpjmojmppjkaaGreat.Eng
open Go

def oneV : V → Bool
  | .agg _ => false
  | .tup _ => false
  | _ => true
/-- Cells are written, one behind the other. -/
noncomputable def wrs (b : Nat) : List V → Nat → M → Option M := fun l => List.rec (fun _ m => some m) (fun v _ ih o m => cond (oneV v) (match m.wr b o v with | some m' => ih (o + 1) m' | none => none) none) l

noncomputable def eStore (P : Program) (t : TypeId) (m : M) (a x : V) : Option M :=
  match a with
  | .ptr b o => match mkTy P t with
    | some y => cond (Nat.beq (cellsV x).length y.size) (wrs b (cellsV x) o m) none
    | none => none
  | _ => none

noncomputable def eMapSet (P : Program) (t : TypeId) (m : M) (x k v : V) : Option M :=
  match x with
  | .map b => match mkTy P t with
    | some ⟨.map kt _, _, _, _⟩ => match mkTy P kt, look m b with
      | some yk, some ⟨.map es clock, _, _⟩ => cond (keyD yk.u k)
          (match mfind k es 0 with
          | some (some (i, _)) => (match nth es i with
            | some (_, _, born) => m.so b (.map (upd es (k, v, born) i) clock)
            | none => none)
          | some none => m.so b (.map (es ++ [(k, v, clock)]) (clock + 1))
          | none => none) none
      | _, _ => none
    | _ => none
  | _ => none

noncomputable def eDelete (P : Program) (t : TypeId) (m : M) (x k : V) : Option M :=
  match mkTy P t with
  | some ⟨.map kt _, _, _, _⟩ => match mkTy P kt with
    | some yk => cond (keyD yk.u k)
      (match x with
      | .nilm => some m
      | .map b => (match look m b with
        | some ⟨.map es clock, _, _⟩ => (match mfind k es 0 with
          | some (some (i, _)) => m.so b (.map (es.eraseIdx i) clock)
          | some none => some m
          | none => none)
        | _ => none)
      | _ => none) none
    | none => none
  | _ => none

/-- What is copied out of a slice, or a string: its first n elements. -/
noncomputable def firstV (m : M) (sz n : Nat) : V → Option (List V)
  | .sl b o _ _ _ => rd m b o (n * sz)
  | .sle _ _ _ _ => cond (Nat.beq n 0) (some []) none
  | .nils => some []
  | .str s => cond (Nat.beq sz 1) (some (u8s (s.take n))) none
  | _ => none
def lenV : V → Option Nat
  | .sl _ _ n _ _ => some n
  | .sle _ _ _ _ => some 0
  | .nils => some 0
  | .str s => some s.length
  | _ => none

noncomputable def eCopy (P : Program) (t : TypeId) (m : M) (d s : V) : Option (V × M) :=
  match mkTy P t with
  | some ⟨.slice e, _, _, _⟩ => match mkTy P e with
    | some y => match lenV d, lenV s with
      | some ld, some ls => match firstV m y.size (Nat.min ls ld) s with
        | some cs => match d with
          | .sl b o _ _ _ => (match wrs b cs o m with | some m' => some (.int .i64 (.ofNat (Nat.min ls ld)), m') | none => none)
          | .nils => some (.int .i64 0, m)
          | .sle _ _ _ _ => some (.int .i64 0, m)
          | _ => none
        | none => none
      | _, _ => none
    | none => none
  | _ => none

/-- A new row for a slice that has no room. -/
noncomputable def M.grow (m : M) (cs : List V) (need sz : Nat) : V × M := (.sl m.n 0 need none sz, m.mk' (.cells cs))

noncomputable def eAppend (P : Program) (ts : List TypeId) (m : M) (s x : V) : Option (V × M) :=
  match ts with
  | t :: t' :: _ => match mkTy P t, mkTy P t' with
    | some ⟨.slice e, _, _, _⟩, some y' => match y'.u with
      | .int _ => none
      | _ => match mkTy P e with
        | some ⟨_, sz, by_, some z⟩ => cond (Nat.blt 0 sz && Nat.beq (cellsV z).length sz && Nat.blt by_ 10000) (match lenV x with
          | some n => match firstV m sz n x with
            | some new => (cond (Nat.beq n 0) (match s with
                | .nils => some (.nils, m)
                | .sl b o len (some c) sz' => cond (Nat.ble len c) (some (.sl b o len (some c) sz', m)) none
                | .sl b o len none sz' => cond (Nat.blt 0 sz') (some (.sl b o len none sz', m)) none
                | .sle b o l sz' => some (.sle b o l sz', m)
                | _ => none)
              (match s with
                | .nils => cond (Nat.blt n 1000000 && Nat.blt m.n 65536) (some (m.grow new n sz)) none
                | .sl b o len (some c) sz' => cond (Nat.beq sz sz' && Nat.blt (len + n) 1000000 && Nat.blt m.n 65536)
                    (cond (Nat.ble (len + n) c)
                      (match wrs b new (o + len * sz) m with | some m' => some (.sl b o (len + n) (some c) sz, m') | none => none)
                      (match rd m b o (len * sz) with | some old => some (m.grow (old ++ new) (len + n) sz) | none => none)) none
                | .sl b o len none sz' => cond (Nat.beq sz sz' && Nat.blt (len + n) 1000000 && Nat.blt m.n 65536)
                    (match look m b with
                    | some ⟨.cells c0, _, _⟩ =>
                      cond (Nat.ble (o + (len + n) * sz) c0.length)
                        (match wrs b new (o + len * sz) m with | some m' => some (.sl b o (len + n) none sz, m') | none => none)
                        (cond (Nat.beq (o + len * sz) c0.length && new.all oneV)
                          (match m.tail b (c0.drop o ++ new) with | some m' => some (.sl m.n 0 (len + n) none sz, m') | none => none) none)
                    | _ => none) none
                | _ => none))
            | none => none
          | none => none) none
        | _ => none
    | _, _ => none
  | _ => none

noncomputable def eClear (P : Program) (t : TypeId) (m : M) (x : V) : Option M :=
  match mkTy P t with
  | some y => (match x with
    | .nilm => some m
    | .nils => some m
    | .map b => (match y.u, look m b with
      | .map _ _, some ⟨.map _ clock, _, _⟩ => m.so b (.map [] clock)
      | _, _ => none)
    | .sle _ _ _ _ => some m
    | .sl b o n _ _ => (match y.u with
      | .slice e => (match mkTy P e with
        | some ⟨_, _, _, some z⟩ => cond (Nat.beq n 0) (some m) (wrs b (repl (cellsV z) n) o m)
        | _ => none)
      | _ => none)
    | _ => none)
  | none => none

/-- The entries that a map's iterator may come to next, and whether it may end. -/
noncomputable def cands (es : List (V × V × Nat)) (since : Nat) (seen : List Nat) : List (Option (V × V × Nat)) :=
  (fun left => (fun old new => (cond old.isEmpty [none] []) ++ (old ++ new).map some) (left.filter fun e => Nat.blt e.2.2 since) (left.filter fun e => Nat.ble since e.2.2)) (es.filter fun e => !(seen.any fun n => Nat.beq n e.2.2))

noncomputable def nextOf (m : M) (b mb since : Nat) (seen : List Nat) (clock : Nat) : List (Option (V × V × Nat)) → Option (List (V × M))
  | [] => some []
  | none :: l => match nextOf m b mb since seen clock l with
    | some r => some ((.tup [.bool false], m) :: r)
    | none => none
  | some (k, v, born) :: l => match m.so b (.iter mb since (seen ++ [born]) clock), nextOf m b mb since seen clock l with
    | some m', some r => some ((.tup [.bool true, k, v], m') :: r)
    | _, _ => none

noncomputable def eNext (m : M) : V → Option (List (V × M))
  | .ptr b 0 => match look m b with
    | some ⟨.iter0, _, _⟩ => some [(.tup [.bool false], m)]
    | some ⟨.iter mb since seen last, _, _⟩ => match look m mb with
      | some ⟨.map es clock, _, _⟩ => cond (!seen.isEmpty && !es.isEmpty && es.all (fun e => Nat.ble last e.2.2)) none (nextOf m b mb since seen clock (cands es since seen))
      | _ => none
    | _ => none
  | _ => none

noncomputable def one1 (r : Option M) : Option (List (V × M)) := match r with | some m => some [(.tup [], m)] | none => none
noncomputable def one2 (r : Option (V × M)) : Option (List (V × M)) := match r with | some p => some [p] | none => none

/-- An operation that writes: all that may come of it. -/
noncomputable def eff0 (P : Program) (ts : T V) (m : M) (op : Op) : Option (List (V × M)) :=
  match op with
  | .store t a x => (match ev ts a, ev ts x with | some va, some vx => one1 (eStore P t m va vx) | _, _ => none)
  | .mapUpdate t x k v => (match ev ts x, ev ts k, ev ts v with | some a, some b, some c => one1 (eMapSet P t m a b c) | _, _, _ => none)
  | .insert t x k v => (match ev ts x, ev ts k, ev ts v with | some a, some b, some c => one1 (eMapSet P t m a b c) | _, _, _ => none)
  | .next it false => (match ev ts it with | some v => eNext m v | none => none)
  | .call ⟨.builtin .append, args, ats⟩ => (match evs ts args.toList with | some [s, x] => one2 (eAppend P ats.toList m s x) | _ => none)
  | .call ⟨.builtin .copy, args, ats⟩ => (match evs ts args.toList, ats.toList with | some [d, s], t :: _ => one2 (eCopy P t m d s) | _, _ => none)
  | .call ⟨.builtin .delete, args, ats⟩ => (match evs ts args.toList, ats.toList with | some [x, k], t :: _ => one1 (eDelete P t m x k) | _, _ => none)
  | .call ⟨.builtin .clear, args, ats⟩ => (match evs ts args.toList, ats.toList with | some [x], t :: _ => one1 (eClear P t m x) | _, _ => none)
  | _ => none
/-- The same by boxes. -/
structure EffBox0 where
  f : Program → T V → M → Option (List (V × M))
noncomputable def effB0 (op : Op) : EffBox0 :=
  match op with
  | .store t a x => ⟨fun P ts m => (match ev ts a, ev ts x with | some va, some vx => one1 (eStore P t m va vx) | _, _ => none)⟩
  | .mapUpdate t x k v => ⟨fun P ts m => (match ev ts x, ev ts k, ev ts v with | some a, some b, some c => one1 (eMapSet P t m a b c) | _, _, _ => none)⟩
  | .insert t x k v => ⟨fun P ts m => (match ev ts x, ev ts k, ev ts v with | some a, some b, some c => one1 (eMapSet P t m a b c) | _, _, _ => none)⟩
  | .next it false => ⟨fun P ts m => (match ev ts it with | some v => eNext m v | none => none)⟩
  | .call ⟨.builtin .append, args, ats⟩ => ⟨fun P ts m => (match evs ts args.toList with | some [s, x] => one2 (eAppend P ats.toList m s x) | _ => none)⟩
  | .call ⟨.builtin .copy, args, ats⟩ => ⟨fun P ts m => (match evs ts args.toList, ats.toList with | some [d, s], t :: _ => one2 (eCopy P t m d s) | _, _ => none)⟩
  | .call ⟨.builtin .delete, args, ats⟩ => ⟨fun P ts m => (match evs ts args.toList, ats.toList with | some [x, k], t :: _ => one1 (eDelete P t m x k) | _, _ => none)⟩
  | .call ⟨.builtin .clear, args, ats⟩ => ⟨fun P ts m => (match evs ts args.toList, ats.toList with | some [x], t :: _ => one1 (eClear P t m x) | _, _ => none)⟩
  | _ => ⟨fun P ts m => none⟩
noncomputable def eff (P : Program) (ts : T V) (m : M) (op : Op) : Option (List (V × M)) := (effB0 op).f P ts m
theorem eff_eq (P : Program) (ts : T V) (m : M) (op : Op) : eff P ts m op = eff0 P ts m op := by
  unfold eff effB0 eff0
  cases op <;> try rfl
  case next it b => cases b <;> rfl
  case call c => obtain ⟨callee, args, ats⟩ := c; cases callee <;> first | rfl | (rename_i b; cases b <;> rfl)

end Go.Proofs.YtdjpjmojmppjkaaGreat.Eng

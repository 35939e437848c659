/- Operations on numbers, strings and truths. -/
import Derived.Test.YtdjpjmojmppjkaaGreatMem3
import Derived.Laws.Sem
import Derived.Laws.Strings
namespace Go.Proofs.YtdjpjmojmppjkaaGreat.Eng
open Go

def hiOf : IntKind → Nat
  | .i8 => 128 | .i16 => 32768 | .i32 => 2147483648 | .i64 => 9223372036854775808
  | .u8 => 256 | .u16 => 65536 | .u32 => 4294967296 | .u64 => 18446744073709551616
/-- The wrap, at once where nothing is to be done. -/
def fw (k : IntKind) (n : Int) : Int :=
  match n with
  | .ofNat m => cond (Nat.blt m (hiOf k)) (.ofNat m) (k.wrap (.ofNat m))
  | .negSucc m => cond (k.signed && Nat.blt m (hiOf k)) (.negSucc m) (k.wrap (.negSucc m))
theorem fw_eq (k : IntKind) (n : Int) : fw k n = k.wrap n := by
  cases n with
  | ofNat m =>
    show cond _ _ _ = _
    cases h : Nat.blt m (hiOf k) with
    | false => rfl
    | true =>
      have h' : m < hiOf k := by simpa using h
      show Int.ofNat m = _
      unfold IntKind.wrap
      cases k <;> simp only [hiOf] at h' <;> simp only [IntKind.bits, IntKind.signed, Int.ofNat_eq_natCast] <;> simp <;> omega
  | negSucc m =>
    show cond _ _ _ = _
    cases h : (k.signed && Nat.blt m (hiOf k)) with
    | false => rfl
    | true =>
      have h1 : k.signed = true := by rw [Bool.and_eq_true] at h; exact h.1
      have h' : m < hiOf k := by rw [Bool.and_eq_true] at h; simpa using h.2
      show Int.negSucc m = _
      unfold IntKind.wrap
      cases k <;> simp only [IntKind.signed, Bool.false_eq_true] at h1 <;> simp only [hiOf] at h' <;> simp only [IntKind.bits, IntKind.signed, Int.negSucc_eq] <;> simp <;> omega

def ilt : Int → Int → Bool
  | .ofNat a, .ofNat b => Nat.blt a b
  | .ofNat _, .negSucc _ => false
  | .negSucc _, .ofNat _ => true
  | .negSucc a, .negSucc b => Nat.blt b a
theorem ilt_eq (x y : Int) : ilt x y = decide (x < y) := by
  cases x <;> cases y <;> simp only [ilt, Int.ofNat_eq_natCast, Int.negSucc_eq] <;> rw [Bool.eq_iff_iff] <;> simp <;> omega
def ieq : Int → Int → Bool
  | .ofNat a, .ofNat b => Nat.beq a b
  | .negSucc a, .negSucc b => Nat.beq a b
  | _, _ => false
theorem ieq_eq (x y : Int) : ieq x y = (x == y) := by
  cases x <;> cases y <;> simp only [ieq, Int.ofNat_eq_natCast, Int.negSucc_eq] <;> rw [Bool.eq_iff_iff] <;> simp <;> omega

def kN : IntKind → Nat
  | .i8 => 0 | .i16 => 1 | .i32 => 2 | .i64 => 3 | .u8 => 4 | .u16 => 5 | .u32 => 6 | .u64 => 7
def keq (j k : IntKind) : Bool := Nat.beq (kN j) (kN k)
theorem keq_eq {j k : IntKind} (h : keq j k = true) : j = k := by cases j <;> cases k <;> first | rfl | cases h

/-- And, or, exclusive or, of numbers that are not below zero, at once. -/
def ibits (op : BinOp) (k : IntKind) (x y : Int) : Option Int :=
  match op with
  | .and => some (k.wrap (BitVec.ofInt k.bits x &&& BitVec.ofInt k.bits y).toNat)
  | .or => some (k.wrap (BitVec.ofInt k.bits x ||| BitVec.ofInt k.bits y).toNat)
  | .xor => some (k.wrap (BitVec.ofInt k.bits x ^^^ BitVec.ofInt k.bits y).toNat)
  | .andNot => some (k.wrap (BitVec.ofInt k.bits x &&& ~~~BitVec.ofInt k.bits y).toNat)
  | _ => none

/-- The wrap of a number that is not below zero. -/
def fwN (k : IntKind) (m : Nat) : Int := cond (Nat.blt m (hiOf k)) (.ofNat m) (cond k.signed (k.wrap (.ofNat m)) (.ofNat (Nat.mod m (hiOf k))))
theorem fwN_eq (k : IntKind) (m : Nat) : fwN k m = k.wrap (.ofNat m) := by
  unfold fwN
  cases h : Nat.blt m (hiOf k) with
  | true =>
    have := fw_eq k (.ofNat m)
    show Int.ofNat m = _
    rw [← this]; show _ = cond _ _ _; rw [h]; rfl
  | false =>
    cases hs : k.signed with
    | true => rfl
    | false =>
      show Int.ofNat (m % hiOf k) = _
      unfold IntKind.wrap
      cases k <;> simp only [IntKind.signed, Bool.true_eq_false] at hs <;> simp only [hiOf, IntKind.bits, IntKind.signed, Int.ofNat_eq_natCast] <;> simp
def iadd (k : IntKind) : Int → Int → Int
  | .ofNat a, .ofNat b => fwN k (Nat.add a b)
  | x, y => fw k (x + y)
theorem iadd_eq (k : IntKind) (x y : Int) : iadd k x y = k.wrap (x + y) := by
  unfold iadd
  split
  · rw [fwN_eq]; rfl
  · rw [fw_eq]
def isub (k : IntKind) : Int → Int → Int
  | .ofNat a, .ofNat b => cond (Nat.ble b a) (fwN k (Nat.sub a b)) (fw k (Int.ofNat a - Int.ofNat b))
  | x, y => fw k (x - y)
theorem isub_eq (k : IntKind) (x y : Int) : isub k x y = k.wrap (x - y) := by
  unfold isub
  split
  · rename_i a b
    cases h : Nat.ble b a with
    | false => exact fw_eq _ _
    | true =>
      have hle := Nat.le_of_ble_eq_true h
      show fwN k (a - b) = _
      rw [fwN_eq]
      congr 1
      simp only [Int.ofNat_eq_natCast]; omega
  · rw [fw_eq]
def imul (k : IntKind) : Int → Int → Int
  | .ofNat a, .ofNat b => fwN k (Nat.mul a b)
  | x, y => fw k (x * y)
theorem imul_eq (k : IntKind) (x y : Int) : imul k x y = k.wrap (x * y) := by
  unfold imul
  split
  · rw [fwN_eq]; rfl
  · rw [fw_eq]
def ishl (k : IntKind) (x y : Int) : Int := match x, y with
  | .ofNat a, .ofNat b => cond (Nat.ble b k.bits) (fwN k (Nat.shiftLeft a b)) (fw k (x * 2 ^ (min y.toNat k.bits)))
  | _, _ => fw k (x * 2 ^ (min y.toNat k.bits))
theorem ishl_eq (k : IntKind) (x y : Int) : ishl k x y = k.wrap (x * 2 ^ (min y.toNat k.bits)) := by
  unfold ishl
  split
  · rename_i a b
    cases h : Nat.ble b k.bits with
    | false => rw [cond_false, fw_eq]
    | true =>
      have hle := Nat.le_of_ble_eq_true h
      show fwN k (a <<< b) = _
      rw [fwN_eq, Nat.shiftLeft_eq]
      congr 1
      have : min (Int.ofNat b).toNat k.bits = b := by simp; omega
      rw [this]
      simp
  · rw [fw_eq]
def ishr (k : IntKind) (x y : Int) : Int := match x, y with
  | .ofNat a, .ofNat b => cond (Nat.ble b k.bits) (.ofNat (Nat.shiftRight a b)) (x.fdiv (2 ^ (min y.toNat k.bits)))
  | _, _ => x.fdiv (2 ^ (min y.toNat k.bits))
theorem ishr_eq (k : IntKind) (x y : Int) : ishr k x y = x.fdiv (2 ^ (min y.toNat k.bits)) := by
  unfold ishr
  split
  · rename_i a b
    cases h : Nat.ble b k.bits with
    | false => rfl
    | true =>
      have hle := Nat.le_of_ble_eq_true h
      show Int.ofNat (a >>> b) = _
      have : min (Int.ofNat b).toNat k.bits = b := by simp; omega
      rw [this, Nat.shiftRight_eq_div_pow, Int.fdiv_eq_ediv_of_nonneg _ (by exact Int.pow_nonneg (by decide))]
      simp
  · rfl
def fbits (op : BinOp) (k : IntKind) (x y : Int) : Option Int := match x, y with
  | .ofNat a, .ofNat b => cond (Nat.blt a (hiOf k) && Nat.blt b (hiOf k)) (match op with
    | .and => some (.ofNat (Nat.land a b))
    | .or => some (.ofNat (Nat.lor a b))
    | .xor => some (.ofNat (Nat.xor a b))
    | _ => ibits op k x y) (ibits op k x y)
  | _, _ => ibits op k x y
theorem ofInt_nat {k : IntKind} {a : Nat} (h : a < hiOf k) : (BitVec.ofInt k.bits (.ofNat a)).toNat = a := by
  have : a < 2 ^ k.bits := by cases k <;> simp only [hiOf] at h <;> simp only [IntKind.bits] <;> omega
  simp only [BitVec.toNat_ofInt, Int.ofNat_eq_natCast]
  rw [Int.emod_eq_of_lt (Int.natCast_nonneg a) (Int.ofNat_lt.2 this)]; simp
theorem wrap_small {k : IntKind} {m : Nat} (h : m < hiOf k) : k.wrap (.ofNat m) = .ofNat m := by
  rw [← fw_eq]
  show cond (Nat.blt m (hiOf k)) (Int.ofNat m) _ = _
  have : Nat.blt m (hiOf k) = true := by simpa using h
  rw [this]; rfl
theorem hiOf_pow (k : IntKind) : ∃ j, hiOf k = 2 ^ j := by
  cases k
  · exact ⟨7, rfl⟩
  · exact ⟨15, rfl⟩
  · exact ⟨31, rfl⟩
  · exact ⟨63, rfl⟩
  · exact ⟨8, rfl⟩
  · exact ⟨16, rfl⟩
  · exact ⟨32, rfl⟩
  · exact ⟨64, rfl⟩
theorem fbits_eq (op : BinOp) (k : IntKind) (x y : Int) : fbits op k x y = ibits op k x y := by
  unfold fbits
  split
  · rename_i a b
    cases h : (Nat.blt a (hiOf k) && Nat.blt b (hiOf k)) with
    | false => rfl
    | true =>
      simp only [Bool.and_eq_true] at h
      have ha : a < hiOf k := by simpa using h.1
      have hb : b < hiOf k := by simpa using h.2
      obtain ⟨j, hj⟩ := hiOf_pow k
      rw [cond_true]
      split
      · show some (Int.ofNat (a &&& b)) = some _
        rw [BitVec.toNat_and, ofInt_nat ha, ofInt_nat hb]
        exact congrArg some (wrap_small (by rw [hj]; exact Nat.and_lt_two_pow _ (hj ▸ hb))).symm
      · show some (Int.ofNat (a ||| b)) = some _
        rw [BitVec.toNat_or, ofInt_nat ha, ofInt_nat hb]
        exact congrArg some (wrap_small (by rw [hj]; exact Nat.or_lt_two_pow (hj ▸ ha) (hj ▸ hb))).symm
      · show some (Int.ofNat (a ^^^ b)) = some _
        rw [BitVec.toNat_xor, ofInt_nat ha, ofInt_nat hb]
        exact congrArg some (wrap_small (by rw [hj]; exact Nat.xor_lt_two_pow (hj ▸ ha) (hj ▸ hb))).symm
      · rfl
  · rfl

/-- Two numbers. -/
def ibin0 (op : BinOp) (k : IntKind) (x : Int) (k' : IntKind) (y : Int) : Option V :=
  match op with
  | .shl => cond (ilt y 0) none (some (.int k (ishl k x y)))
  | .shr => cond (ilt y 0) none (some (.int k (ishr k x y)))
  | .add => cond (keq k k') (some (.int k (iadd k x y))) none
  | .sub => cond (keq k k') (some (.int k (isub k x y))) none
  | .mul => cond (keq k k') (some (.int k (imul k x y))) none
  | .quo => cond (keq k k') (cond (ieq y 0) none (some (.int k (fw k (x.tdiv y))))) none
  | .rem => cond (keq k k') (cond (ieq y 0) none (some (.int k (x.tmod y)))) none
  | .and | .or | .xor | .andNot => cond (keq k k') (match fbits op k x y with | some z => some (.int k z) | none => none) none
  | .eql => cond (keq k k') (some (.bool (ieq x y))) none
  | .neq => cond (keq k k') (some (.bool (!ieq x y))) none
  | .lss => cond (keq k k') (some (.bool (ilt x y))) none
  | .leq => cond (keq k k') (some (.bool (!ilt y x))) none
  | .gtr => cond (keq k k') (some (.bool (ilt y x))) none
  | .geq => cond (keq k k') (some (.bool (!ilt x y))) none

structure IBox where
  f : IntKind → Int → IntKind → Int → Option V
def ibinB (op : BinOp) : IBox :=
  match op with
  | .shl => ⟨fun k x k' y => cond (ilt y 0) none (some (.int k (ishl k x y)))⟩
  | .shr => ⟨fun k x k' y => cond (ilt y 0) none (some (.int k (ishr k x y)))⟩
  | .add => ⟨fun k x k' y => cond (keq k k') (some (.int k (iadd k x y))) none⟩
  | .sub => ⟨fun k x k' y => cond (keq k k') (some (.int k (isub k x y))) none⟩
  | .mul => ⟨fun k x k' y => cond (keq k k') (some (.int k (imul k x y))) none⟩
  | .quo => ⟨fun k x k' y => cond (keq k k') (cond (ieq y 0) none (some (.int k (fw k (x.tdiv y))))) none⟩
  | .rem => ⟨fun k x k' y => cond (keq k k') (cond (ieq y 0) none (some (.int k (x.tmod y)))) none⟩
  | .and => ⟨fun k x k' y => cond (keq k k') (match fbits .and k x y with | some z => some (.int k z) | none => none) none⟩
  | .or => ⟨fun k x k' y => cond (keq k k') (match fbits .or k x y with | some z => some (.int k z) | none => none) none⟩
  | .xor => ⟨fun k x k' y => cond (keq k k') (match fbits .xor k x y with | some z => some (.int k z) | none => none) none⟩
  | .andNot => ⟨fun k x k' y => cond (keq k k') (match fbits .andNot k x y with | some z => some (.int k z) | none => none) none⟩
  | .eql => ⟨fun k x k' y => cond (keq k k') (some (.bool (ieq x y))) none⟩
  | .neq => ⟨fun k x k' y => cond (keq k k') (some (.bool (!ieq x y))) none⟩
  | .lss => ⟨fun k x k' y => cond (keq k k') (some (.bool (ilt x y))) none⟩
  | .leq => ⟨fun k x k' y => cond (keq k k') (some (.bool (!ilt y x))) none⟩
  | .gtr => ⟨fun k x k' y => cond (keq k k') (some (.bool (ilt y x))) none⟩
  | .geq => ⟨fun k x k' y => cond (keq k k') (some (.bool (!ilt x y))) none⟩
def ibin (op : BinOp) (k : IntKind) (x : Int) (k' : IntKind) (y : Int) : Option V := (ibinB op).f k x k' y
theorem ibin_eq (op : BinOp) (k : IntKind) (x : Int) (k' : IntKind) (y : Int) : ibin op k x k' y = ibin0 op k x k' y := by cases op <;> rfl

theorem cond_some {α : Type} {c : Bool} {x : α} {o : Option α} (h : cond c o none = some x) : c = true ∧ o = some x := by
  cases c with
  | false => cases h
  | true => exact ⟨rfl, h⟩
theorem cond_some' {α : Type} {c : Bool} {x : α} {o : Option α} (h : cond c none o = some x) : c = false ∧ o = some x := by
  cases c with
  | true => cases h
  | false => exact ⟨rfl, h⟩

theorem ibin_ok {E : Env} (P : Program) (w : World) (op : BinOp) (k : IntKind) (x : Int) (k' : IntKind) (y : Int) (t : TypeId) (v : V) (h : ibin op k x k' y = some v) :
    ∃ u, (binOp op t (.int k x) (.int k' y)).run P w = .ok u w ∧ rep E v = some u := by
  cases op <;> simp only [ibin_eq, ibin0] at h
  case shl =>
    obtain ⟨h1, h2⟩ := cond_some' h
    cases h2
    rw [ilt_eq] at h1
    have : ¬ y < 0 := by simpa using h1
    exact ⟨_, by simp [binOp, Op.shift, this] <;> rfl, by rw [ishl_eq]; rfl⟩
  case shr =>
    obtain ⟨h1, h2⟩ := cond_some' h
    cases h2
    rw [ilt_eq] at h1
    have : ¬ y < 0 := by simpa using h1
    exact ⟨_, by simp [binOp, Op.shift, this] <;> rfl, by rw [ishr_eq]; rfl⟩
  case quo =>
    obtain ⟨h1, h2⟩ := cond_some h
    obtain ⟨h3, h4⟩ := cond_some' h2
    cases h4
    cases keq_eq h1
    rw [ieq_eq] at h3
    have : ¬ y = 0 := by simpa using h3
    exact ⟨_, by simp [binOp, Op.intDiv, this] <;> rfl, by rw [fw_eq]; rfl⟩
  case rem =>
    obtain ⟨h1, h2⟩ := cond_some h
    obtain ⟨h3, h4⟩ := cond_some' h2
    cases h4
    cases keq_eq h1
    rw [ieq_eq] at h3
    have : ¬ y = 0 := by simpa using h3
    exact ⟨_, by simp [binOp, Op.intDiv, this] <;> rfl, rfl⟩
  case and => obtain ⟨h1, h2⟩ := cond_some h; cases keq_eq h1; rw [fbits_eq] at h2; cases h2; exact ⟨_, by simp [binOp, Op.intBits] <;> rfl, rfl⟩
  case or => obtain ⟨h1, h2⟩ := cond_some h; cases keq_eq h1; rw [fbits_eq] at h2; cases h2; exact ⟨_, by simp [binOp, Op.intBits] <;> rfl, rfl⟩
  case xor => obtain ⟨h1, h2⟩ := cond_some h; cases keq_eq h1; rw [fbits_eq] at h2; cases h2; exact ⟨_, by simp [binOp, Op.intBits] <;> rfl, rfl⟩
  case andNot => obtain ⟨h1, h2⟩ := cond_some h; cases keq_eq h1; rw [fbits_eq] at h2; cases h2; exact ⟨_, by simp [binOp, Op.intBits] <;> rfl, rfl⟩
  case add => obtain ⟨h1, h2⟩ := cond_some h; cases keq_eq h1; cases h2; exact ⟨_, by simp [binOp, Op.intArith] <;> rfl, by rw [iadd_eq]; rfl⟩
  case sub => obtain ⟨h1, h2⟩ := cond_some h; cases keq_eq h1; cases h2; exact ⟨_, by simp [binOp, Op.intArith] <;> rfl, by rw [isub_eq]; rfl⟩
  case mul => obtain ⟨h1, h2⟩ := cond_some h; cases keq_eq h1; cases h2; exact ⟨_, by simp [binOp, Op.intArith] <;> rfl, by rw [imul_eq]; rfl⟩
  case eql => obtain ⟨h1, h2⟩ := cond_some h; cases keq_eq h1; cases h2; exact ⟨_, by simp [binOp, Op.intCmp] <;> rfl, by rw [ieq_eq]; rfl⟩
  case neq => obtain ⟨h1, h2⟩ := cond_some h; cases keq_eq h1; cases h2; exact ⟨_, by simp [binOp, Op.intCmp] <;> rfl, by rw [ieq_eq]; rfl⟩
  case lss => obtain ⟨h1, h2⟩ := cond_some h; cases keq_eq h1; cases h2; exact ⟨_, by simp [binOp, Op.intCmp] <;> rfl, by rw [ilt_eq]; rfl⟩
  case gtr => obtain ⟨h1, h2⟩ := cond_some h; cases keq_eq h1; cases h2; exact ⟨_, by simp [binOp, Op.intCmp] <;> rfl, by rw [ilt_eq]; rfl⟩
  case leq => obtain ⟨h1, h2⟩ := cond_some h; cases keq_eq h1; cases h2; exact ⟨.bool (decide (x ≤ y)), by simp [binOp, Op.intCmp], by rw [ilt_eq]; simp only [rep, Option.some.injEq, Value.bool.injEq]; rw [Bool.eq_iff_iff]; simp⟩
  case geq => obtain ⟨h1, h2⟩ := cond_some h; cases keq_eq h1; cases h2; exact ⟨.bool (decide (x ≥ y)), by simp [binOp, Op.intCmp], by rw [ilt_eq]; simp only [rep, Option.some.injEq, Value.bool.injEq]; rw [Bool.eq_iff_iff]; simp⟩

/-- Are two rows of bytes the same? -/
noncomputable def beqs (s : List UInt8) : List UInt8 → Bool :=
  List.rec (fun t => List.casesOn t true (fun _ _ => false)) (fun a _ ih t => List.casesOn t false (fun b t => cond (Nat.beq a.toNat b.toNat) (ih t) false)) s
theorem beqs_eq (s : List UInt8) : ∀ t, beqs s t = (s == t) := by
  induction s with
  | nil => intro t; cases t <;> rfl
  | cons a s ih =>
    intro t
    cases t with
    | nil => rfl
    | cons b t =>
      show cond (Nat.beq a.toNat b.toNat) (beqs s t) false = _
      rw [ih]
      by_cases h : a = b
      · subst h; simp
      · have h1 : ¬ a.toNat = b.toNat := fun e => h (UInt8.toNat_inj.1 e)
        have h2 : Nat.beq a.toNat b.toNat = false := by
          cases e : Nat.beq a.toNat b.toNat with
          | false => rfl
          | true => exact absurd (Nat.eq_of_beq_eq_true e) h1
        rw [h2]
        simp [h]

noncomputable def sbin (op : BinOp) (s t : List UInt8) : Option V :=
  match op with
  | .add => cond (Nat.blt (s.length + t.length) 1000000000) (some (.str (s ++ t))) none
  | .eql => some (.bool (beqs s t))
  | .neq => some (.bool (!beqs s t))
  | .lss => some (.bool (Op.bytesLess s t))
  | .leq => some (.bool (Op.bytesLess s t || beqs s t))
  | .gtr => some (.bool (!(Op.bytesLess s t || beqs s t)))
  | .geq => some (.bool (!Op.bytesLess s t))
  | _ => none
theorem bytes_toList (s : List UInt8) : (ByteArray.mk s.toArray).toList = s := by
  rw [ByteArray.toList_eq]
theorem sbin_ok {E : Env} (P : Program) (w : World) (op : BinOp) (s t : List UInt8) (ty : TypeId) (v : V) (h : sbin op s t = some v) :
    ∃ u, (binOp op ty (.string ⟨s.toArray⟩) (.string ⟨t.toArray⟩)).run P w = .ok u w ∧ rep E v = some u := by
  cases op <;> simp only [sbin] at h <;> try cases h
  case add =>
    obtain ⟨h1, h2⟩ := cond_some h
    cases h2
    have h3 : s.length + t.length < 1000000000 := by simpa using h1
    refine ⟨.string (⟨s.toArray⟩ ++ ⟨t.toArray⟩), ?_, ?_⟩
    · simp only [binOp, Op.stringOp]
      rw [if_neg]
      · rfl
      · show ¬ (((s.toArray.size + t.toArray.size : Nat) : Int) > _)
        simp [IntKind.max, IntKind.signed, IntKind.bits]; omega
    · simp only [rep, Option.some.injEq, Value.string.injEq]
      apply ByteArray.ext
      simp
  case eql => exact ⟨_, by simp only [binOp, Op.stringOp, bytes_toList] <;> rfl, by rw [beqs_eq]; rfl⟩
  case neq => exact ⟨_, by simp only [binOp, Op.stringOp, bytes_toList] <;> rfl, by rw [beqs_eq]; rfl⟩
  case lss => exact ⟨_, by simp only [binOp, Op.stringOp, bytes_toList] <;> rfl, rfl⟩
  case leq => exact ⟨_, by simp only [binOp, Op.stringOp, bytes_toList] <;> rfl, by rw [beqs_eq]; rfl⟩
  case gtr => exact ⟨_, by simp only [binOp, Op.stringOp, bytes_toList] <;> rfl, by rw [beqs_eq]; rfl⟩
  case geq => exact ⟨_, by simp only [binOp, Op.stringOp, bytes_toList] <;> rfl, rfl⟩

end Go.Proofs.YtdjpjmojmppjkaaGreat.Eng

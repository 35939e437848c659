/- The engine's memory, and the world that it stands for. -/
import Derived.Test.YtdjpjmojmppjkaaGreatVal
import Derived.Laws.World
import Derived.RangeFuncRecord
namespace Go.Proofs.YtdjpjmojmppjkaaGreat.Eng
open Go

inductive AO where
  | cells (cs : List V)
  | map (es : List (V × V × Nat)) (clock : Nat)
  | iter (m since : Nat) (seen : List Nat) (stepped : Nat)
  | iter0
  | dfd (taken : Bool)
  | loop (st : LoopState) (pe : Option Code) (fn : FuncId) (ts : T V) (nt : Nat) (ps : Array Tmp) (asg body : Code) (df : Nat)

/-- A block: what it has; the first block of its real row; may others lie in that row, too? -/
structure Ent where
  o : AO
  root : Nat
  al : Bool

/-- The memory: the blocks; of a shared row: its newest block, and the oldest that is good still; the next number; what was written, the latest first. -/
structure M where
  h : T Ent
  lin : T (Nat × Nat)
  n : Nat
  wl : List Nat

abbrev DH : Nat := 16
abbrev DT : Nat := 9

noncomputable def alive (m : M) (b : Nat) (e : Ent) : Bool :=
  cond e.al (match m.lin.get DH e.root with | some (_, fl) => Nat.ble fl b | none => false) true
noncomputable def look (m : M) (b : Nat) : Option Ent :=
  match m.h.get DH b with
  | some e => cond (alive m b e) (some e) none
  | none => none

theorem look_eq {m : M} {b : Nat} {e : Ent} : look m b = some e ↔ m.h.get DH b = some e ∧ alive m b e = true := by
  unfold look
  cases h : m.h.get DH b with
  | none => simp
  | some e' =>
    cases ha : alive m b e' with
    | false =>
      simp only [ha, cond_false, reduceCtorEq, Option.some.injEq, false_iff, not_and, Bool.not_eq_true]
      rintro rfl; exact ha
    | true =>
      simp only [ha, cond_true, Option.some.injEq]
      constructor
      · rintro rfl; exact ⟨rfl, ha⟩
      · exact fun h => h.1

def trep (E : Env) (ts : T V) (nt : Nat) (a : Array Value) : Prop :=
  a.size = nt ∧ (∀ i, i < nt → ∃ x, a[i]? = some x ∧ rep E ((ts.get DT i).getD (.tup [])) = some x) ∧ nt ≤ 512 ∧ ∀ i, nt ≤ i → ts.get DT i = none
theorem trep_mono {E F : Env} (h : E.le F) {ts : T V} {nt : Nat} {a : Array Value} (k : trep E ts nt a) : trep F ts nt a :=
  ⟨k.1, fun i hi => let ⟨x, hx, hr⟩ := k.2.1 i hi; ⟨x, hx, rep_mono h _ _ hr⟩, k.2.2⟩

def ereps (E : Env) : List (V × V × Nat) → Option (List MapEntry)
  | [] => some []
  | (k, v, b) :: l => (rep E k).bind fun ku => (rep E v).bind fun vu => (ereps E l).map fun r => ⟨ku, vu, b⟩ :: r
theorem ereps_mono {E F : Env} (h : E.le F) : ∀ (l : List (V × V × Nat)) (u : List MapEntry), ereps E l = some u → ereps F l = some u
  | [], _, e => e
  | (k, v, b) :: l, u, e => by
    simp only [ereps, Option.bind_eq_some_iff, Option.map_eq_some_iff] at e ⊢
    obtain ⟨ku, hk, vu, hv, r, hr, hu⟩ := e
    exact ⟨ku, rep_mono h _ _ hk, vu, rep_mono h _ _ hv, r, ereps_mono h l r hr, hu⟩

def orep (E : Env) (e : EB) : AO → Obj → Prop
  | .cells cs, o => ∃ (c : Array Value) (t : TypeId) (fz : Nat × Nat) (u : List Value), o = .cells c t fz ∧ c.size = e.m ∧ e.s + cs.length ≤ e.m ∧ reps E cs = some u ∧
      (∀ i, i < u.length → c[e.s + i]? = u[i]?) ∧ (∀ i, i < e.m → ¬ (fz.1 ≤ i ∧ i < fz.2))
  | .map es clock, o => ∃ l, ereps E es = some l ∧ o = .map l.toArray clock
  | .iter m since seen st, o => ∃ x, E m = some x ∧ e.s = 0 ∧ o = .mapIter (some x.r) since seen.toArray st
  | .iter0, o => e.s = 0 ∧ o = .mapIter none 0 #[] 0
  | .dfd tk, o => o = .deferred (if tk then none else some [])
  | .loop st pe fn ts nt ps asg body df, o => ∃ a x, trep E ts nt a ∧ E df = some x ∧
      o = .loop { state := st, pending := pe, fn, tmps := a, params := ps, assign := asg, body, defers := x.r }
theorem orep_mono {E F : Env} (h : E.le F) {e : EB} {a : AO} {o : Obj} (k : orep E e a o) : orep F e a o := by
  cases a with
  | cells cs =>
    obtain ⟨c, t, fz, u, h1, h2, h3, h4, h5⟩ := k
    exact ⟨c, t, fz, u, h1, h2, h3, reps_mono h _ _ h4, h5⟩
  | map es clock => obtain ⟨l, h1, h2⟩ := k; exact ⟨l, ereps_mono h _ _ h1, h2⟩
  | iter m since seen st => obtain ⟨x, h1, h2⟩ := k; exact ⟨x, h _ _ h1, h2⟩
  | iter0 => exact k
  | dfd tk => exact k
  | loop st pe fn ts nt ps asg body df => obtain ⟨a, x, h1, h2, h3⟩ := k; exact ⟨a, x, trep_mono h h1, h _ _ h2, h3⟩

def ncells : AO → Nat
  | .cells cs => cs.length
  | _ => 0

structure Rel (E : Env) (m : M) (w : World) : Prop where
  dom : ∀ b x, E b = some x → b < m.n ∧ x.r < w.heap.size
  cap : m.n ≤ 65536
  ids : ∀ b e, m.h.get DH b = some e → b < m.n ∧ e.root < m.n
  obj : ∀ b e, look m b = some e → ∃ x o, E b = some x ∧ w.heap[x.r]? = some o ∧ orep E x e.o o
  one : ∀ b b' e e' x x', look m b = some e → look m b' = some e' → E b = some x → E b' = some x' → x.r = x'.r → b ≠ b' → e.al = true ∧ e'.al = true ∧ e.root = e'.root
  ends : ∀ b b' e e' x x', look m b = some e → look m b' = some e' → E b = some x → E b' = some x' → x.r = x'.r → b ≤ b' → x.s + ncells e.o ≤ x'.s + ncells e'.o
  new : ∀ b e nw fl, look m b = some e → e.al = true → m.lin.get DH e.root = some (nw, fl) → b ≤ nw
  solo : ∀ b b' e e', m.h.get DH b = some e → m.h.get DH b' = some e' → e.al = false → e'.root = e.root → b' = b
  rt : ∀ b e, m.h.get DH b = some e → ∃ e', m.h.get DH e.root = some e'

/-- What a step leaves as it was. -/
structure Step (E : Env) (m : M) (w : World) (E' : Env) (m' : M) (w' : World) : Prop where
  le : E.le E'
  n : m.n ≤ m'.n
  shrink : ∀ b e, b < m.n → look m' b = some e → ∃ e0, look m b = some e0
  img : ∀ b x, E' b = some x → E b = none → m.n ≤ b ∧ (w.heap.size ≤ x.r ∨ ∃ b0 e0 x0, look m b0 = some e0 ∧ E b0 = some x0 ∧ x0.r = x.r)
  frame : ∀ r, r < w.heap.size → (∀ b e x, look m b = some e → E b = some x → x.r ≠ r) → w'.heap[r]? = w.heap[r]?
  size : w.heap.size ≤ w'.heap.size
  os : w'.os = w.os
  tape : w'.tape = w.tape
  output : w'.output = w.output
  raw : ∀ b, b < m.n → m.h.get DH b = none → m'.h.get DH b = none
  keep : ∀ b e, m.h.get DH b = some e → ∃ e', m'.h.get DH b = some e'
  log : ∃ l, m'.wl = l ++ m.wl ∧ ∀ b e, m.h.get DH b = some e → b ∉ l → e.root ∉ l → m'.h.get DH b = some e ∧ m'.lin.get DH e.root = m.lin.get DH e.root

theorem Step.refl (E : Env) (m : M) (w : World) : Step E m w E m w :=
  ⟨E.le_refl, Nat.le_refl _, fun b e _ h => ⟨e, h⟩, fun b x h k => (by rw [h] at k; cases k), fun _ _ _ => rfl, Nat.le_refl _, rfl, rfl, rfl, fun _ _ h => h, fun _ e h => ⟨e, h⟩, [], rfl, fun _ _ h _ _ => ⟨h, rfl⟩⟩
theorem Step.trans {E E1 E2 : Env} {m m1 m2 : M} {w w1 w2 : World} (hr : Rel E m w) (h : Step E m w E1 m1 w1) (k : Step E1 m1 w1 E2 m2 w2) : Step E m w E2 m2 w2 := by
  refine ⟨Env.le_trans h.le k.le, Nat.le_trans h.n k.n, fun b e hb he => ?_, fun b x hx hn => ?_, fun r hlt hf => ?_, Nat.le_trans h.size k.size, k.os.trans h.os, k.tape.trans h.tape, k.output.trans h.output, fun b hb hn => k.raw b (Nat.lt_of_lt_of_le hb h.n) (h.raw b hb hn), fun b e he => (let ⟨e1, h1⟩ := h.keep b e he; k.keep b e1 h1), ?_⟩
  · obtain ⟨e1, h1⟩ := k.shrink b e (Nat.lt_of_lt_of_le hb h.n) he
    exact h.shrink b e1 hb h1
  · have old : ∀ b0 e0 x0, look m1 b0 = some e0 → E1 b0 = some x0 → w.heap.size ≤ x0.r ∨ ∃ b1 e1 x1, look m b1 = some e1 ∧ E b1 = some x1 ∧ x1.r = x0.r := by
      intro b0 e0 x0 h0 hx0
      cases he : E b0 with
      | none => exact (h.img b0 x0 hx0 he).2
      | some y =>
        have : x0 = y := by have := h.le b0 y he; rw [hx0] at this; exact Option.some.inj this
        subst this
        obtain ⟨e1, h1⟩ := h.shrink b0 e0 (hr.dom b0 _ he).1 h0
        exact .inr ⟨b0, e1, x0, h1, he, rfl⟩
    cases h1 : E1 b with
    | some y =>
      have : x = y := by have := k.le b y h1; rw [hx] at this; exact Option.some.inj this
      subst this
      exact h.img b x h1 hn
    | none =>
      obtain ⟨hb, hc⟩ := k.img b x hx h1
      refine ⟨Nat.le_trans h.n hb, ?_⟩
      rcases hc with hc | ⟨b0, e0, x0, h0, hx0, he⟩
      · exact .inl (Nat.le_trans h.size hc)
      · rcases old b0 e0 x0 h0 hx0 with ho | ⟨b1, e1, x1, h1', hx1, he1⟩
        · exact .inl (by rw [← he]; exact ho)
        · exact .inr ⟨b1, e1, x1, h1', hx1, he1.trans he⟩
  · rw [k.frame r (Nat.lt_of_lt_of_le hlt h.size) ?_, h.frame r hlt hf]
    intro b e x hb hx hxr
    cases he : E b with
    | none =>
      rcases (h.img b x hx he).2 with ho | ⟨b1, e1, x1, h1, hx1, he1⟩
      · omega
      · exact hf b1 e1 x1 h1 hx1 (he1.trans hxr)
    | some y =>
      have : x = y := by have := h.le b y he; rw [hx] at this; exact Option.some.inj this
      subst this
      obtain ⟨e1, h1⟩ := h.shrink b e (hr.dom b _ he).1 hb
      exact hf b e1 x h1 he hxr
  · obtain ⟨l1, hl1, k1⟩ := h.log
    obtain ⟨l2, hl2, k2⟩ := k.log
    refine ⟨l2 ++ l1, by rw [hl2, hl1, List.append_assoc], fun b e he hb hr => ?_⟩
    obtain ⟨g1, g2⟩ := k1 b e he (fun hh => hb (List.mem_append_right _ hh)) (fun hh => hr (List.mem_append_right _ hh))
    obtain ⟨g3, g4⟩ := k2 b e g1 (fun hh => hb (List.mem_append_left _ hh)) (fun hh => hr (List.mem_append_left _ hh))
    exact ⟨g3, g4.trans g2⟩

theorem obj_eq {E : Env} {m : M} {w : World} (r : Rel E m w) {b : Nat} {e : Ent} {x : EB} (h : look m b = some e) (hx : E b = some x) : ∃ o, w.heap[x.r]? = some o ∧ orep E x e.o o := by
  obtain ⟨y, o, hy, ho, hr⟩ := r.obj b e h
  rw [hx] at hy; cases hy
  exact ⟨o, ho, hr⟩

/-- Bookkeeping in the world alone: what lies behind live blocks stays. -/
theorem Rel.ext {E E' : Env} {m : M} {w w' : World} {n' : Nat} (h : Rel E m w) (le : E.le E') (dom : ∀ b x, E' b = some x → E b = none → b < n' ∧ m.n ≤ b ∧ x.r < w'.heap.size)
    (hn : m.n ≤ n') (hc : n' ≤ 65536) (hw : ∀ b e x, look m b = some e → E b = some x → w'.heap[x.r]? = w.heap[x.r]?) (hs : w.heap.size ≤ w'.heap.size) : Rel E' { m with n := n' } w' := by
  have back : ∀ b e x, look m b = some e → E' b = some x → E b = some x := by
    intro b e x hb hx
    obtain ⟨y, o, hy, _⟩ := h.obj b e hb
    have := le b y hy; rw [hx] at this; cases this; exact hy
  have lk : ∀ b, look { m with n := n' } b = look m b := fun b => rfl
  refine ⟨fun b x hx => ?_, hc, fun b e he => ?_, fun b e he => ?_, fun b b' e e' x x' he he' hx hx' => ?_, fun b b' e e' x x' he he' hx hx' => ?_, fun b e nw fl he => ?_, fun b b' e e' => h.solo b b' e e', h.rt⟩
  · cases hb : E b with
    | none => exact ⟨(dom b x hx hb).1, (dom b x hx hb).2.2⟩
    | some y =>
      have := le b y hb; rw [hx] at this; cases this
      exact ⟨Nat.lt_of_lt_of_le (h.dom b _ hb).1 hn, Nat.lt_of_lt_of_le (h.dom b _ hb).2 hs⟩
  · exact ⟨Nat.lt_of_lt_of_le (h.ids b e he).1 hn, Nat.lt_of_lt_of_le (h.ids b e he).2 hn⟩
  · rw [lk] at he
    obtain ⟨x, o, hx, ho, hr⟩ := h.obj b e he
    exact ⟨x, o, le b x hx, (hw b e x he hx).trans ho, orep_mono le hr⟩
  · rw [lk] at he he'
    exact h.one b b' e e' x x' he he' (back b e x he hx) (back b' e' x' he' hx')
  · rw [lk] at he he'
    exact h.ends b b' e e' x x' he he' (back b e x he hx) (back b' e' x' he' hx')
  · rw [lk] at he
    exact h.new b e nw fl he

theorem get_h_set {m : M} {b k : Nat} {x : Ent} (hb : b < 65536) : (m.h.set x DH b).get DH k = if b = k then some x else m.h.get DH k := T.get_set x m.h DH b k (by show b < 2 ^ 16; omega)

/-- A block that lies there already is taken in. -/
theorem Rel.put {E : Env} {m : M} {w : World} (h : Rel E m w) {b : Nat} {x : EB} {o : Obj} {a : AO} (hb : E b = some x) (ho : w.heap[x.r]? = some o) (hr : orep E x a o)
    (hx : ∀ b' e' x', look m b' = some e' → E b' = some x' → x'.r ≠ x.r) (hroot : ∀ b' e', m.h.get DH b' = some e' → e'.root ≠ b) : Rel E { m with h := m.h.set ⟨a, b, false⟩ DH b } w := by
  have hlt : b < 65536 := Nat.lt_of_lt_of_le (h.dom b x hb).1 h.cap
  have lk : ∀ k, look { m with h := m.h.set ⟨a, b, false⟩ DH b } k = if b = k then some ⟨a, b, false⟩ else look m k := by
    intro k
    unfold look
    rw [get_h_set hlt]
    by_cases e : b = k
    · rw [if_pos e, if_pos e]; rfl
    · rw [if_neg e, if_neg e]; rfl
  refine ⟨h.dom, h.cap, fun k e he => ?_, fun k e he => ?_, fun k k' e e' y y' he he' hy hy' hrr hne => ?_, fun k k' e e' y y' he he' hy hy' hrr hle => ?_, fun k e nw fl he ha hl => ?_, fun k k' e e' he he' ha hrt => ?_, fun k e he => ?_⟩
  · dsimp only at he ⊢
    rw [get_h_set hlt] at he
    by_cases ek : b = k
    · rw [if_pos ek] at he; cases he; subst ek; exact ⟨(h.dom b x hb).1, (h.dom b x hb).1⟩
    · rw [if_neg ek] at he; exact h.ids k e he
  · rw [lk] at he
    by_cases ek : b = k
    · rw [if_pos ek] at he; cases he; subst ek; exact ⟨x, o, hb, ho, hr⟩
    · rw [if_neg ek] at he; exact h.obj k e he
  · rw [lk] at he he'
    by_cases ek : b = k
    · rw [if_pos ek] at he; cases he; subst ek
      rw [hb] at hy; cases hy
      rw [if_neg hne] at he'
      exact absurd hrr.symm (hx k' e' y' he' hy')
    · rw [if_neg ek] at he
      by_cases ek' : b = k'
      · rw [if_pos ek'] at he'; cases he'; subst ek'
        rw [hb] at hy'; cases hy'
        exact absurd hrr (hx k e y he hy)
      · rw [if_neg ek'] at he'; exact h.one k k' e e' y y' he he' hy hy' hrr hne
  · rw [lk] at he he'
    by_cases ek : b = k
    · rw [if_pos ek] at he; cases he; subst ek
      rw [hb] at hy; cases hy
      by_cases ek' : b = k'
      · rw [if_pos ek'] at he'; cases he'; subst ek'; rw [hb] at hy'; cases hy'; exact Nat.le_refl _
      · rw [if_neg ek'] at he'; exact absurd hrr.symm (hx k' e' y' he' hy')
    · rw [if_neg ek] at he
      by_cases ek' : b = k'
      · rw [if_pos ek'] at he'; cases he'; subst ek'
        rw [hb] at hy'; cases hy'
        exact absurd hrr (hx k e y he hy)
      · rw [if_neg ek'] at he'; exact h.ends k k' e e' y y' he he' hy hy' hrr hle
  · rw [lk] at he
    by_cases ek : b = k
    · rw [if_pos ek] at he; cases he; cases ha
    · rw [if_neg ek] at he; exact h.new k e nw fl he ha hl
  · dsimp only at he he'
    rw [get_h_set hlt] at he he'
    by_cases ek : b = k
    · rw [if_pos ek] at he; cases he; subst ek
      by_cases ek' : b = k'
      · exact ek'.symm
      · rw [if_neg ek'] at he'; exact absurd hrt (hroot k' e' he')
    · rw [if_neg ek] at he
      by_cases ek' : b = k'
      · rw [if_pos ek'] at he'; cases he'; subst ek'
        dsimp only at hrt
        exact absurd hrt.symm (hroot k e he)
      · rw [if_neg ek'] at he'; exact h.solo k k' e e' he he' ha hrt
  · dsimp only at he ⊢
    rw [get_h_set hlt] at he
    by_cases ek : b = k
    · rw [if_pos ek] at he; cases he; exact ⟨_, by rw [get_h_set hlt, if_pos rfl]⟩
    · rw [if_neg ek] at he
      obtain ⟨e', he'⟩ := h.rt k e he
      rw [get_h_set hlt]
      by_cases e2 : b = e.root
      · exact ⟨_, if_pos e2⟩
      · exact ⟨e', by rw [if_neg e2]; exact he'⟩

/-- A new block. -/
noncomputable def M.mk' (m : M) (a : AO) : M := { m with h := m.h.set ⟨a, m.n, false⟩ DH m.n, n := m.n + 1 }
def Env.add (E : Env) (b : Nat) (x : EB) : Env := fun k => if k = b then some x else E k
theorem Env.add_same (E : Env) (b : Nat) (x : EB) : E.add b x b = some x := if_pos rfl
theorem Env.add_other (E : Env) {b k : Nat} (x : EB) (h : k ≠ b) : E.add b x k = E k := if_neg h
theorem Env.le_add (E : Env) {b : Nat} (x : EB) (h : E b = none) : E.le (E.add b x) := fun k y hk => by
  rw [Env.add_other]; exact hk
  intro e; subst e; rw [h] at hk; cases hk

theorem Rel.unmapped {E : Env} {m : M} {w : World} (h : Rel E m w) {b : Nat} (hb : m.n ≤ b) : E b = none := by
  cases e : E b with
  | none => rfl
  | some x => have := (h.dom b x e).1; omega

theorem Rel.alloc {E : Env} {m : M} {w : World} (h : Rel E m w) (a : AO) (o : Obj) (x : EB) (hx : x.r = w.heap.size) (hc : m.n < 65536) (hr : orep (E.add m.n x) x a o) :
    Rel (E.add m.n x) (m.mk' a) (w.alloc o) ∧ Step E m w (E.add m.n x) (m.mk' a) (w.alloc o) := by
  have hn := h.unmapped (Nat.le_refl m.n)
  have hle := E.le_add x hn
  have hold : ∀ r, r < w.heap.size → (w.alloc o).heap[r]? = w.heap[r]? := fun r hr => by
    show (w.heap.push o)[r]? = _
    rw [Array.getElem?_push]; rw [if_neg (by omega)]
  have h1 : Rel (E.add m.n x) { m with n := m.n + 1 } (w.alloc o) := h.ext hle (fun b y hy hb => by
      by_cases e : b = m.n
      · subst e; rw [Env.add_same] at hy; cases hy; exact ⟨by omega, Nat.le_refl _, by rw [hx]; simp⟩
      · rw [Env.add_other E x e] at hy; rw [hb] at hy; cases hy) (by omega) (by omega)
    (fun b e y _ hy => hold _ (h.dom b y hy).2) (by simp)
  refine ⟨h1.put (b := m.n) (x := x) (o := o) (a := a) (Env.add_same _ _ _) (by rw [hx]; exact World.alloc_heap_new w o) hr (fun b' e' x' hb' hx' hrr => ?_) (fun b' e' hb' hrt => ?_), ?_⟩
  · have hb2 : look m b' = some e' := hb'
    obtain ⟨y, o', hy, _⟩ := h.obj b' e' hb2
    have := hle b' y hy; rw [hx'] at this; cases this
    have := (h.dom b' _ hy).2
    omega
  · have := (h.ids b' e' hb').2; omega
  · have hlt : m.n < 65536 := hc
    refine ⟨hle, Nat.le_succ _, fun b e hb he => ?_, fun b y hy hb => ?_, fun r hr _ => hold r hr, by simp, rfl, rfl, rfl, fun b hb hn => ?_, fun b e he => ⟨e, ?_⟩, [], rfl, fun b e he _ _ => ⟨?_, rfl⟩⟩
    · refine ⟨e, ?_⟩
      rw [look_eq] at he ⊢
      obtain ⟨h1, h2⟩ := he
      have h1' : (m.h.set ⟨a, m.n, false⟩ DH m.n).get DH b = some e := h1
      rw [get_h_set hlt, if_neg (by omega)] at h1'
      exact ⟨h1', h2⟩
    · by_cases e : b = m.n
      · subst e; rw [Env.add_same] at hy; cases hy; exact ⟨Nat.le_refl _, .inl (by omega)⟩
      · rw [Env.add_other E x e] at hy; rw [hb] at hy; cases hy
    · show (m.h.set ⟨a, m.n, false⟩ DH m.n).get DH b = none
      rw [get_h_set hlt, if_neg (by omega)]; exact hn
    · show (m.h.set ⟨a, m.n, false⟩ DH m.n).get DH b = some e
      rw [get_h_set hlt, if_neg (by have := (h.ids b e he).1; omega)]; exact he
    · show (m.h.set ⟨a, m.n, false⟩ DH m.n).get DH b = some e
      rw [get_h_set hlt, if_neg (by have := (h.ids b e he).1; omega)]; exact he

end Go.Proofs.YtdjpjmojmppjkaaGreat.Eng

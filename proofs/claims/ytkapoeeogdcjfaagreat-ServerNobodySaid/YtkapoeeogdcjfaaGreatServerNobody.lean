/- A server that is nil, or that no call made, or whose power went, tells nothing and does nothing, whatever it is asked: curfewlaw35.ServerNobody returns true, and its argument reads afterwards as before. No condition. -/
import Derived.Test.YtkapoeeogdcjfaaGreatFacts
import Derived.Test.YtkapoeeogdcjfaaGreatServerRun
import Derived.WalkKit
import Derived.ProofKit
import Derived.OpenShut
import Derived.ShutString
import Derived.ChangeOld
import Derived.Below
import Derived.HandedShaped
import Derived.Lib.SmallJoins
import Derived.Deep.Fields
import Derived.Deep.Slices
import Derived.DataReads
namespace Go.Proofs.YtkapoeeogdcjfaaGreat
open Go.ChangeShapes Go.WideShapes Go.ChangeAt Go.RowKit Go.Joins Go.Deep

theorem own : ownKnob Tryz.prog.godebug = none := by kernel_rfl

theorem opShape : Eng.shp Tryz.prog 5 32 = some [.int .i64, .int .i64, .int .i64, .int .u64, .int .u64, .int .i64, .int .i64, .int .i64, .int .u64, .int .u64, .int .u64, .int .u64, .int .u64, .bool, .bool, .slice, .int .u64, .int .u64, .slice, .slice, .slice, .slice, .slice] := by kernel_rfl
theorem entShape : Eng.shp Tryz.prog 5 136 = some [.int .u64, .int .i64, .slice] := by kernel_rfl

theorem cells3 {w : World} {base : Nat} {a : Addr} {p q r : Value} (h : w.cells? base a 3 = some [p, q, r]) : w.cell? a = some p ∧ w.cell? (a.add 1) = some q ∧ w.cell? (a.add 2) = some r := by
  unfold World.cells? at h
  split at h
  · have e : List.range 3 = [0, 1, 2] := rfl
    rw [e] at h
    simp only [List.mapM_cons, List.mapM_nil, Option.bind_eq_bind, Option.bind_eq_some_iff, Option.pure_def, Option.some.injEq, List.cons.injEq] at h
    obtain ⟨x, hx, l, ⟨y, hy, l2, ⟨z, hz, l3, rfl, rfl⟩, rfl⟩, rfl, _⟩ := h
    have h0 : a.add 0 = a := by unfold Addr.add; rw [if_pos rfl]
    rw [h0] at hx
    simp_all
  · cases h

section
variable {H : Type} {enc : TypeId × Value → H} {w : World} {base : Nat} {spare : Nat → Bool} {held : Bool}

/-- A field of a struct that is read. -/
theorem trod_field {P : Program} {t : TypeId} {fs : Array Field} {fuel : Nat} {cs : List Value} {x : DataW H × List MemPlace} (ht : P.underlying t = some (.struct fs)) (h : DataW.trod enc P w base spare held fuel t cs = some x)
    {i : Nat} {f : Field} (hi : fs[i]? = some f) : ∃ n y, DataW.trod enc P w base spare held n f.type ((cs.drop f.offset).take (P.cellsOf f.type)) = some y := by
  obtain ⟨xs, m, _, _, hlen, hxl, hf⟩ := DataW.trod_struct ht h
  have hilt : i < fs.size := (Array.getElem?_eq_some_iff.1 hi).1
  exact ⟨m, _, (hf i f hi).trans (List.getElem?_eq_getElem (by omega))⟩

theorem ents_of_trod {fuel : Nat} {a : Option Addr} {n c : Nat} {x : DataW H × List MemPlace} (h : DataW.trod enc Tryz.prog w base spare held fuel 23 [.slice a n c] = some x) : ∃ y, Ents w a n y := by
  rcases open_slice (e := 136) (by kernel_rfl) h with ⟨h1, _⟩ | ⟨a0, len, cap, m, k, D, Pl, h1, _, hl, hc, hm, _, hall⟩
  · cases h1; exact ⟨fun _ => (0, 0, none, 0, 0), Nat.zero_le _, fun h => absurd h (by omega)⟩
  · cases h1
    have hcell : Tryz.prog.cellsOf 136 = 3 := by kernel_rfl
    have hle : n ≤ m := by rw [hm]; split <;> omega
    have each : ∀ i, ∃ y : Int × Int × Option Addr × Nat × Nat, i < n → w.cell? (a0.add (i * 3)) = some (.int .u64 y.1) ∧ w.cell? ((a0.add (i * 3)).add 1) = some (.int .i64 y.2.1) ∧ w.cell? ((a0.add (i * 3)).add 2) = some (.slice y.2.2.1 y.2.2.2.1 y.2.2.2.2) := by
      intro i
      by_cases hi : i < n
      · obtain ⟨cs', g1, g2⟩ := hall i (by omega)
        rw [hcell] at g1
        obtain ⟨vs, hr, hf⟩ := Eng.shp_ok (E := Eng.E0) 5 136 _ _ _ _ entShape g2
        obtain ⟨_, r0, rfl, ⟨n0, rfl⟩, f0⟩ := Eng.fits_inv hf
        obtain ⟨_, r1, rfl, ⟨n1, rfl⟩, f1⟩ := Eng.fits_inv f0
        obtain ⟨_, r2, rfl, ⟨a2, l2, c2, rfl⟩, f2⟩ := Eng.fits_inv f1
        obtain rfl := Eng.fits_nil f2
        cases hr
        obtain ⟨q1, q2, q3⟩ := cells3 g1
        exact ⟨(n0, n1, a2, l2, c2), fun _ => ⟨q1, q2, q3⟩⟩
      · exact ⟨(0, 0, none, 0, 0), fun h => absurd h hi⟩
    obtain ⟨y, hy⟩ := Classical.axiomOfChoice each
    refine ⟨y, by omega, fun h0 => ?_⟩
    have hsp : a0.spot = none := by
      have := World.cell?_spot (hy 0 h0).1
      rwa [Nat.zero_mul, show a0.add 0 = a0 by unfold Addr.add; rw [if_pos rfl]] at this
    obtain ⟨b, o, s⟩ := a0
    dsimp only at hsp
    subst hsp
    have hb : b < w.heap.size := by
      have := World.block_lt_of_cell? w _ (hy 0 h0).1
      rwa [addr_add] at this
    refine ⟨b, o, rfl, hb, fun i hi => ?_⟩
    have := hy i hi
    rw [addr_add, addr_add, addr_add] at this
    exact this
end

def zeroOp : Value := .agg #[.int .i64 0, .int .i64 0, .int .i64 0, .int .u64 0, .int .u64 0, .int .i64 0, .int .i64 0, .int .i64 0, .int .u64 0, .int .u64 0, .int .u64 0, .int .u64 0, .int .u64 0, .bool false, .bool false, .slice none 0 0, .int .u64 0, .int .u64 0, .slice none 0 0, .slice none 0 0, .slice none 0 0, .slice none 0 0, .slice none 0 0]

noncomputable def fieldsOf (t : TypeId) : Array Field := match Tryz.prog.underlying t with | some (.struct fs) => fs | _ => #[]
theorem opFields : Tryz.prog.underlying 32 = some (.struct (fieldsOf 32)) := by kernel_rfl
theorem msgFields : Tryz.prog.underlying 29 = some (.struct (fieldsOf 29)) := by kernel_rfl
theorem opM : (fieldsOf 32)[5]? = some (((fieldsOf 32)[5]?).getD default) := by kernel_rfl
theorem opMt : (((fieldsOf 32)[5]?).getD default).type = 29 := by kernel_rfl
theorem opMo : (((fieldsOf 32)[5]?).getD default).offset = 5 := by kernel_rfl
theorem msgE : (fieldsOf 29)[10]? = some (((fieldsOf 29)[10]?).getD default) := by kernel_rfl
theorem msgEt : (((fieldsOf 29)[10]?).getD default).type = 23 := by kernel_rfl
theorem msgEo : (((fieldsOf 29)[10]?).getD default).offset = 10 := by kernel_rfl
theorem msgCells : Tryz.prog.cellsOf 29 = 15 := by kernel_rfl
theorem rowCells : Tryz.prog.cellsOf 23 = 1 := by kernel_rfl

theorem heap_pos {W : World} (h : W.ShapedOpen Tryz.prog) : 0 < W.heap.size := by
  have he : (((begin Tryz.prog (fun _ _ => 0) default).world.heap[0]?).bind Obj.row?).isSome = true := by kernel_rfl
  obtain ⟨⟨z, t⟩, hz⟩ := Option.isSome_iff_exists.1 he
  obtain ⟨cs, hcs, _⟩ := h.1 0 z t (of_decide_eq_true (by kernel_rfl)) hz
  exact (Array.getElem?_eq_some_iff.1 hcs).1

set_option maxRecDepth 100000 in
theorem lifted (os : Os) (started : os.Started) (H : Type) (enc : TypeId × Value → H) :
    ReturnsInHanded {} Tryz.checked os 3 .any (Rows.serverNobodySpec.pre6 enc Tryz.prog Tryz.f3 Rows.serverNobodyRow.domain false) (Rows.serverNobodySpec.post enc Tryz.prog Tryz.f3 false true false false) := by
  refine returnsInHanded_of_change_shaped (C := Tryz.checked) own started (by kernel_rfl) Tryz.func3
    (ChangeSpec.witness6 (enc := enc) (C := Tryz.checked) false ⟨#[], #[zeroOp], []⟩ 8 (by kernel_rfl) (by kernel_rfl) (by kernel_rfl) (by kernel_rfl)) ?_
  intro W base args ds gs before hval0 hW hcnd _ hsh _
  have hval : ∀ (j : Nat) t v, Tryz.f3.params[j]? = some t → args[j]? = some v → Value.okWide Tryz.prog W .any base t v := hval0
  have hW' := hW
  obtain ⟨p, q, hA0, hV, rfl, hfz, hnd⟩ := hW
  have hA : DataW.TrodAll enc Tryz.prog W 0 (fun _ => true) true Tryz.f3.params.toList args.toList ds p := hA0
  rw [Tryz.params3] at hA hval
  obtain ⟨v0, vs0, d0, ds0, p0, q0, hargs, rfl, rfl, h0, r0⟩ := trodAll_cons hA
  obtain ⟨rfl, rfl, rfl⟩ := trodAll_nil r0
  obtain rfl : args = #[v0] := by cases args; simp_all
  obtain ⟨rfl, rfl⟩ := trodVars_none hV
  have k0 := h0
  have lt0 : ∀ x ∈ p0, x.block < W.heap.size := by obtain ⟨m, hm⟩ := k0; exact DataW.trod_lt m _ _ _ hm
  obtain ⟨cs, rfl, _⟩ := okWide_struct opFields (hval 0 32 v0 rfl rfl)
  obtain ⟨fuel, hf0⟩ := h0
  have hf1 : DataW.trod enc Tryz.prog W 0 (fun _ => true) true fuel 32 cs.toList = some (d0, p0) := hf0
  obtain ⟨vs, hr, hfit⟩ := Eng.shp_ok (E := Eng.E0) 5 32 _ fuel _ _ opShape hf1
  clear hA0 hval0
  obtain ⟨_, s0, rfl, ⟨n0, rfl⟩, g0⟩ := Eng.fits_inv hfit
  obtain ⟨_, s1, rfl, ⟨n1, rfl⟩, g1⟩ := Eng.fits_inv g0
  obtain ⟨_, s2, rfl, ⟨n2, rfl⟩, g2⟩ := Eng.fits_inv g1
  obtain ⟨_, s3, rfl, ⟨n3, rfl⟩, g3⟩ := Eng.fits_inv g2
  obtain ⟨_, s4, rfl, ⟨n4, rfl⟩, g4⟩ := Eng.fits_inv g3
  obtain ⟨_, s5, rfl, ⟨n5, rfl⟩, g5⟩ := Eng.fits_inv g4
  obtain ⟨_, s6, rfl, ⟨n6, rfl⟩, g6⟩ := Eng.fits_inv g5
  obtain ⟨_, s7, rfl, ⟨n7, rfl⟩, g7⟩ := Eng.fits_inv g6
  obtain ⟨_, s8, rfl, ⟨n8, rfl⟩, g8⟩ := Eng.fits_inv g7
  obtain ⟨_, s9, rfl, ⟨n9, rfl⟩, g9⟩ := Eng.fits_inv g8
  obtain ⟨_, s10, rfl, ⟨n10, rfl⟩, g10⟩ := Eng.fits_inv g9
  obtain ⟨_, s11, rfl, ⟨n11, rfl⟩, g11⟩ := Eng.fits_inv g10
  obtain ⟨_, s12, rfl, ⟨n12, rfl⟩, g12⟩ := Eng.fits_inv g11
  obtain ⟨_, s13, rfl, ⟨b1, rfl⟩, g13⟩ := Eng.fits_inv g12
  obtain ⟨_, s14, rfl, ⟨b2, rfl⟩, g14⟩ := Eng.fits_inv g13
  obtain ⟨_, s15, rfl, ⟨a13, l13, c13, rfl⟩, g15⟩ := Eng.fits_inv g14
  obtain ⟨_, s16, rfl, ⟨n14, rfl⟩, g16⟩ := Eng.fits_inv g15
  obtain ⟨_, s17, rfl, ⟨n15, rfl⟩, g17⟩ := Eng.fits_inv g16
  obtain ⟨_, s18, rfl, ⟨a16, l16, c16, rfl⟩, g18⟩ := Eng.fits_inv g17
  obtain ⟨_, s19, rfl, ⟨a17, l17, c17, rfl⟩, g19⟩ := Eng.fits_inv g18
  obtain ⟨_, s20, rfl, ⟨a18, l18, c18, rfl⟩, g20⟩ := Eng.fits_inv g19
  obtain ⟨_, s21, rfl, ⟨a19, l19, c19, rfl⟩, g21⟩ := Eng.fits_inv g20
  obtain ⟨_, s22, rfl, ⟨a20, l20, c20, rfl⟩, g22⟩ := Eng.fits_inv g21
  obtain rfl := Eng.fits_nil g22
  have hcs : cs = #[.int .i64 n0, .int .i64 n1, .int .i64 n2, .int .u64 n3, .int .u64 n4, .int .i64 n5, .int .i64 n6, .int .i64 n7, .int .u64 n8, .int .u64 n9, .int .u64 n10, .int .u64 n11, .int .u64 n12, .bool b1, .bool b2, .slice a13 l13 c13, .int .u64 n14, .int .u64 n15, .slice a16 l16 c16, .slice a17 l17 c17, .slice a18 l18 c18, .slice a19 l19 c19, .slice a20 l20 c20] := by
    have e := Option.some.inj hr
    rw [← Array.toArray_toList (xs := cs), ← e]
  subst hcs
  obtain ⟨x, hent⟩ : ∃ x, Ents W a13 l13 x := by
    obtain ⟨k1, y1, m1⟩ := trod_field opFields hf1 opM
    rw [opMt, opMo, msgCells] at m1
    obtain ⟨k2, y2, m2⟩ := trod_field msgFields m1 msgE
    rw [msgEt, msgEo, rowCells] at m2
    exact ents_of_trod m2
  refine (server_calls n0 n1 n2 n3 n4 n5 n6 n7 n8 n9 n10 n11 n12 n14 n15 b1 b2 a13 a16 a17 a18 a19 a20 l13 c13 l16 c16 l17 c17 l18 c18 l19 c19 l20 c20 W (heap_pos hsh) x hent).mono fun e W' ⟨he, bel⟩ => ?_
  subst he
  exact ⟨_, rfl, _, _, _, [], _, [], hW', trodAll_mk1 (shut_bool Tryz.underlying4 _), (trodAll_cons_mk (Below.trod laidOut (by kernel_rfl) (of_decide_eq_true (by kernel_rfl)) k0 bel lt0) trodAll_mk0), rfl, bel.frame _, fun h => by cases h⟩

theorem over : Rows.serverNobodyRow.holds Tryz.pinned (OpenSpec.ofChange Rows.serverNobodySpec) :=
  OpenClaim.holds_of_wide 3 Tryz.f3 rfl rfl rfl rfl rfl rfl rfl ⟨rfl, rfl, rfl, rfl, rfl⟩ rfl rfl rfl rfl rfl named Tryz.func3 joined
    (of_decide_eq_true (by kernel_rfl)) (by unfold Func.isWrapper; rw [if_neg (of_decide_eq_false (by kernel_rfl))]; exact ⟨rfl, rfl⟩)
    (fun os started H enc _ => lifted os started H enc)

/-- The statement. -/
theorem serverNobody_holds : Rows.ServerNobodySaid := over
#print axioms serverNobody_holds
end Go.Proofs.YtkapoeeogdcjfaaGreat

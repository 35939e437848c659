/- Slices of slices are the model's. -/
import Derived.Test.YtdjpjmojmppjkaaGreatFltOk2
namespace Go.Proofs.YtdjpjmojmppjkaaGreat.Eng
open Go

section
variable {P : Program} {E : Env} {m : M} {w : World}

def orepV (E : Env) : Option V → Option Value → Prop
  | none, none => True
  | some v, some u => rep E v = some u
  | _, _ => False

theorem run_sliceBound {k : IntKind} {n y : Nat} (h : n ≤ y) (code : BoundsCode) (w : World) : (Instr.sliceBound (.int k (n : Int)) y code).run P w = .ok n w := by
  have : (n : Int) ≤ (y : Int) := by omega
  simp [Instr.sliceBound, asIntOf, h]

theorem bnd_some {v : V} {d n : Nat} (h : bnd (some v) d = some n) : ∃ k, v = .int k (n : Int) := by
  unfold bnd at h
  split at h
  · rename_i hh; cases hh
  · rename_i hh; cases hh; cases h; exact ⟨_, rfl⟩
  · cases h

theorem run_sliceBounds {isSl : Bool} {len cap l h mm : Nat} {lo hi mx : Option V} {ulo uhi umx : Option Value} (r1 : orepV E lo ulo) (r2 : orepV E hi uhi) (r3 : orepV E mx umx)
    (b1 : bnd lo 0 = some l) (b2 : bnd hi len = some h) (b3 : bnd mx cap = some mm) (h1 : l ≤ h) (h2 : h ≤ mm) (h3 : mm ≤ cap) (h4 : hi.isNone = true → mx.isNone = true) (w : World) :
    (Instr.sliceBounds isSl len cap ulo uhi umx).run P w = .ok (l, h, mm) w := by
  have em : ∀ code, (match umx with | some v => Instr.sliceBound v cap code | none => pure cap : Sem Nat).run P w = .ok mm w := by
    intro code
    cases mx with
    | none => cases umx with
      | none => simp only [bnd, Option.some.injEq] at b3; subst b3; rfl
      | some _ => exact r3.elim
    | some v => cases umx with
      | none => exact r3.elim
      | some u =>
        obtain ⟨k, rfl⟩ := bnd_some b3
        cases r3
        exact run_sliceBound h3 code w
  cases hi with
  | none =>
    cases uhi with
    | some _ => exact r2.elim
    | none =>
      cases mx with
      | some _ => exact absurd (h4 rfl) (by simp)
      | none =>
        cases umx with
        | some _ => exact r3.elim
        | none =>
          simp only [bnd, Option.some.injEq] at b2 b3
          subst b2 b3
          cases lo with
          | none => cases ulo with
            | some _ => exact r1.elim
            | none => simp only [bnd, Option.some.injEq] at b1; subst b1; simp [Instr.sliceBounds]
          | some v => cases ulo with
            | none => exact r1.elim
            | some u =>
              obtain ⟨k, rfl⟩ := bnd_some b1
              cases r1
              simp [Instr.sliceBounds, run_sliceBound h1]
  | some v =>
    cases uhi with
    | none => exact r2.elim
    | some u =>
      obtain ⟨k, rfl⟩ := bnd_some b2
      cases r2
      cases mx with
      | none =>
        cases umx with
        | some _ => exact r3.elim
        | none =>
          simp only [bnd, Option.some.injEq] at b3; subst b3
          cases lo with
          | none => cases ulo with
            | some _ => exact r1.elim
            | none => simp only [bnd, Option.some.injEq] at b1; subst b1; simp [Instr.sliceBounds, run_sliceBound h2]
          | some v => cases ulo with
            | none => exact r1.elim
            | some u =>
              obtain ⟨k, rfl⟩ := bnd_some b1
              cases r1
              simp [Instr.sliceBounds, run_sliceBound h1, run_sliceBound h2]
      | some vm =>
        cases umx with
        | none => exact r3.elim
        | some um =>
          obtain ⟨km, rfl⟩ := bnd_some b3
          cases r3
          cases lo with
          | none => cases ulo with
            | some _ => exact r1.elim
            | none => simp only [bnd, Option.some.injEq] at b1; subst b1; simp [Instr.sliceBounds, run_sliceBound h2, run_sliceBound h3]
          | some v => cases ulo with
            | none => exact r1.elim
            | some u =>
              obtain ⟨k, rfl⟩ := bnd_some b1
              cases r1
              simp [Instr.sliceBounds, run_sliceBound h1, run_sliceBound h2, run_sliceBound h3]

theorem cut_rep {b o l h mm sz : Nat} {x : EB} (hb : E b = some x) : rep E (cut b o l h mm sz) = some (.slice (some (if mm = l then ⟨x.r, x.s + o, none⟩ else (⟨x.r, x.s + o, none⟩ : Addr).add (l * sz))) (h - l) (mm - l)) := by
  unfold cut
  by_cases e : mm = l
  · subst e
    have : Nat.beq mm mm = true := Nat.beq_refl mm
    rw [this, cond_true, if_pos rfl]
    simp only [rep, hb, Option.bind_some]
  · have : Nat.beq mm l = false := by
      cases hh : Nat.beq mm l with
      | false => rfl
      | true => exact absurd (Nat.eq_of_beq_eq_true hh) e
    rw [this, cond_false, if_neg e, add_addr]
    simp only [rep, hb, Option.bind_some, Nat.add_assoc]

theorem rep_sl {b o len sz : Nat} {cap : Option Nat} {u : Value} (h : rep E (.sl b o len cap sz) = some u) :
    ∃ x c, E b = some x ∧ u = .slice (some ⟨x.r, x.s + o, none⟩) len c ∧ (∀ c', cap = some c' → c = c') ∧ (cap = none → x.s + o + len * sz ≤ x.m ∧ c = (x.m - (x.s + o)) / sz) := by
  simp only [rep, Option.bind_eq_some_iff] at h
  obtain ⟨x, hx, h⟩ := h
  cases cap with
  | some c => cases h; exact ⟨x, c, hx, rfl, fun _ e => by cases e; rfl, fun e => by cases e⟩
  | none =>
    dsimp only at h
    split at h
    · rename_i hle
      cases h; exact ⟨x, _, hx, rfl, fun _ e => (by cases e), fun _ => ⟨hle, rfl⟩⟩
    · cases h

theorem le_room {s m len sz : Nat} (hz : 0 < sz) (h : s + len * sz ≤ m) : len ≤ (m - s) / sz := by
  rw [Nat.le_div_iff_mul_le hz]; omega
theorem room_sub {s m l sz : Nat} (hz : 0 < sz) : (m - (s + l * sz)) / sz = (m - s) / sz - l := by
  rw [← Nat.sub_sub, Nat.mul_comm l sz]
  exact Nat.sub_mul_div_of_le' hz
where
  Nat.sub_mul_div_of_le' {x sz l : Nat} (hz : 0 < sz) : (x - sz * l) / sz = x / sz - l := by
    rcases Nat.lt_or_ge x (sz * l) with h | h
    · rw [Nat.sub_eq_zero_of_le (Nat.le_of_lt h), Nat.zero_div]
      have : x / sz < l := (Nat.div_lt_iff_lt_mul hz).2 (by rw [Nat.mul_comm]; exact h)
      omega
    · exact Nat.sub_mul_div_of_le x sz l h

theorem fSlice_ok {t : TypeId} {x : V} {ux : Value} {lo hi mx : Option V} {ulo uhi umx : Option Value} {out : FO} (hx : rep E x = some ux) (r1 : orepV E lo ulo) (r2 : orepV E hi uhi) (r3 : orepV E mx umx)
    (hf : fSlice P t x lo hi mx = some out) (w : World) : ∃ v u, out = .v v ∧ (Instr.sliceAt t ux ulo uhi umx).run P w = .ok u w ∧ rep E v = some u := by
  unfold fSlice at hf
  split at hf
  · -- a string
    rename_i _ _ _ ht
    split at hf
    · rename_i s
      cases umx with
      | some _ => exact r3.elim
      | none =>
      split at hf
      · rename_i l h hl hh
        obtain ⟨h1, h2⟩ := cond_some hf
        rw [Bool.and_eq_true] at h1
        have hlh := Nat.le_of_ble_eq_true h1.1
        have hhs := Nat.le_of_ble_eq_true h1.2
        cases h2; cases hx
        refine ⟨_, .string ((ByteArray.mk s.toArray).extract l h), rfl, ?_, ?_⟩
        · have hb := run_sliceBounds (P := P) (E := E) (isSl := false) (len := s.length) (cap := s.length) (mx := none) r1 r2 (umx := none) trivial hl hh rfl hlh hhs (Nat.le_refl _) (fun _ => rfl) w
          have hsz : (ByteArray.mk s.toArray).size = s.length := by show s.toArray.size = _; simp
          simp [Instr.sliceAt, run_underlying (tyOk ht).u, Instr.slice, hsz, hb]
        · simp only [rep, Option.some.injEq, Value.string.injEq]
          apply ByteArray.ext
          rw [ByteArray.data_extract]
          apply Array.ext'
          simp [List.extract_eq_take_drop, List.drop_take]
      · cases hf
    · cases hf
  · -- an array
    rename_i n e _ _ _ ht
    split at hf
    · rename_i b o
      obtain ⟨xb, hb, rfl⟩ := rep_ptr hx
      split at hf
      · rename_i y hy
        split at hf
        · rename_i l h mm hl hh hm
          obtain ⟨h1, h2⟩ := cond_some hf
          simp only [Bool.and_eq_true] at h1
          obtain ⟨⟨⟨⟨a1, a2⟩, a3⟩, a4⟩, a5⟩ := h1
          cases h2
          have hbd := run_sliceBounds (P := P) (isSl := false) r1 r2 r3 hl hh hm (Nat.le_of_ble_eq_true a1) (Nat.le_of_ble_eq_true a2) (Nat.le_of_ble_eq_true a3) (fun hn => by rw [hn] at a5; exact a5) w
          refine ⟨_, _, rfl, ?_, cut_rep hb⟩
          simp [Instr.sliceAt, run_underlying (tyOk ht).u, Instr.sureAddr, hbd, run_sizeOf (tyOk hy)]
        · cases hf
      · cases hf
    · cases hf
  · -- a slice
    rename_i e _ _ _ ht
    split at hf
    · rename_i b o len c sz
      obtain ⟨xb, c', hb, rfl, hc, _⟩ := rep_sl hx
      have := hc c rfl; subst this
      split at hf
      · rename_i y hy
        split at hf
        · rename_i l h mm hl hh hm
          obtain ⟨h1, h2⟩ := cond_some hf
          simp only [Bool.and_eq_true] at h1
          obtain ⟨⟨⟨⟨a1, a2⟩, a3⟩, a4⟩, a5⟩ := h1
          cases h2
          have a4' : y.size = sz := Nat.eq_of_beq_eq_true a4
          have hbd := run_sliceBounds (P := P) (isSl := true) r1 r2 r3 hl hh hm (Nat.le_of_ble_eq_true a1) (Nat.le_of_ble_eq_true a2) (Nat.le_of_ble_eq_true a3) (fun hn => by rw [hn] at a5; exact a5) w
          refine ⟨_, _, rfl, ?_, cut_rep hb⟩
          simp only [Instr.sliceAt, Sem.run_bind, run_underlying (tyOk ht).u, Result.andThen_ok, Instr.slice, hbd, run_sizeOf (tyOk hy), a4']
          rw [Sem.run_pure]
          split <;> rfl
        · cases hf
      · cases hf
    · rename_i b o len sz
      obtain ⟨xb, c', hb, rfl, _, hc⟩ := rep_sl hx
      obtain ⟨hroom, rfl⟩ := hc rfl
      split at hf
      · rename_i y hy
        split at hf
        · rename_i l h hl hh
          obtain ⟨h1, h2⟩ := cond_some hf
          simp only [Bool.and_eq_true] at h1
          obtain ⟨⟨⟨a1, a2⟩, a3⟩, a4⟩ := h1
          have a1' := Nat.le_of_ble_eq_true a1
          have a2' := Nat.le_of_ble_eq_true a2
          have a3' : y.size = sz := Nat.eq_of_beq_eq_true a3
          have hz : 0 < sz := by simpa using a4
          have hcap := le_room hz hroom
          split at h2
          · cases umx with
            | some _ => exact r3.elim
            | none =>
            have hbd := run_sliceBounds (P := P) (isSl := true) (E := E) (mx := none) (umx := none) r1 r2 trivial hl hh rfl a1' (Nat.le_trans a2' hcap) (Nat.le_refl _) (fun _ => rfl) w
            have hrun : (Instr.sliceAt t (.slice (some ⟨xb.r, xb.s + o, none⟩) len ((xb.m - (xb.s + o)) / sz)) ulo uhi none).run P w =
                .ok (.slice (some (if (xb.m - (xb.s + o)) / sz = l then ⟨xb.r, xb.s + o, none⟩ else (⟨xb.r, xb.s + o, none⟩ : Addr).add (l * sz))) (h - l) ((xb.m - (xb.s + o)) / sz - l)) w := by
              simp only [Instr.sliceAt, Sem.run_bind, run_underlying (tyOk ht).u, Result.andThen_ok, Instr.slice, hbd, run_sizeOf (tyOk hy), a3']
              rw [Sem.run_pure]
              split <;> rfl
            cases hlt : Nat.blt l len with
            | true =>
              have hlt' : l < len := by simpa using hlt
              rw [hlt, cond_true] at h2; cases h2
              refine ⟨_, _, rfl, hrun, ?_⟩
              have hmul : (h - l) * sz + l * sz ≤ len * sz := by rw [← Nat.add_mul]; exact Nat.mul_le_mul_right sz (by omega)
              simp only [rep, hb, Option.bind_some]
              rw [if_pos (by omega), if_neg (by omega), add_addr, ← room_sub hz]
              simp only [Nat.add_assoc]
            | false =>
              have hge : ¬ l < len := fun h' => by
                have : Nat.blt l len = true := by simpa using h'
                rw [this] at hlt; cases hlt
              rw [hlt, cond_false] at h2; cases h2
              refine ⟨_, _, rfl, hrun, ?_⟩
              have e1 : l = len := by omega
              have e2 : h = len := by omega
              subst e1; subst e2
              simp only [rep, hb, Option.bind_some]
              rw [if_pos hroom]
              by_cases e : (xb.m - (xb.s + o)) / sz = h
              · rw [if_pos e, if_pos e, e]; simp
              · rw [if_neg e, if_neg e, add_addr]; simp
          · rename_i mv
            cases umx with
            | none => exact r3.elim
            | some um =>
            cases hn : hi.isNone with
            | true => rw [hn] at h2; cases h2
            | false =>
              rw [hn, cond_false] at h2
              split at h2
              · rename_i mm hm
                obtain ⟨h3, h4⟩ := cond_some h2
                rw [Bool.and_eq_true] at h3
                have a5 := Nat.le_of_ble_eq_true h3.1
                have a6 := Nat.le_of_ble_eq_true h3.2
                cases h4
                have hm' : bnd (some mv) ((xb.m - (xb.s + o)) / sz) = some mm := by
                  obtain ⟨k, rfl⟩ := bnd_some hm; rfl
                have hbd := run_sliceBounds (P := P) (isSl := true) r1 r2 (mx := some mv) (umx := some um) r3 hl hh hm' a1' a5 (Nat.le_trans a6 hcap) (fun hh => by rw [hn] at hh; cases hh) w
                refine ⟨_, _, rfl, ?_, cut_rep hb⟩
                simp only [Instr.sliceAt, Sem.run_bind, run_underlying (tyOk ht).u, Result.andThen_ok, Instr.slice, hbd, run_sizeOf (tyOk hy), a3']
                rw [Sem.run_pure]
                split <;> rfl
              · cases h2
        · cases hf
      · cases hf
    · split at hf
      · rename_i y hy
        split at hf
        · rename_i hl hh hm
          obtain ⟨h1, h2⟩ := cond_some hf
          cases h2; cases hx
          have hbd := run_sliceBounds (P := P) (isSl := true) r1 r2 r3 hl hh hm (Nat.le_refl _) (Nat.le_refl _) (Nat.le_refl _) (fun hn => by rw [hn] at h1; exact h1) w
          refine ⟨_, .slice none 0 0, rfl, ?_, rfl⟩
          simp [Instr.sliceAt, run_underlying (tyOk ht).u, Instr.slice, hbd, run_sizeOf (tyOk hy)]
        · cases hf
      · cases hf
    · cases hf
  · cases hf

end
end Go.Proofs.YtdjpjmojmppjkaaGreat.Eng

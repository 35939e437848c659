/- Functions without a body that a table tells. -/
import Derived.Test.YtdjpjmojmppjkaaGreatSound
import Derived.Laws.LoneSync
import Derived.KernelRfl
namespace Go.Proofs.YtdjpjmojmppjkaaGreat.Eng
open Go

/-- What the table has. -/
def XK.sem : XK → Array Value → Sem Value
  | .load k => Extern.Atomic.loadT (.int k)
  | .store => Extern.Atomic.storeT
  | .cas k => Extern.Atomic.casT (.int k)
  | .add k => Extern.Atomic.update (Op.intArith .add) k true
  | .clone => Extern.MapsClone.clone

def NameOk (n : String) (x : XK) : Prop := Extern.allNextRows.lookup n = none ∧ Extern.allGenericRows.lookup n = none ∧ Extern.allTypedRows.lookup n = none ∧ Extern.allRows.lookup n = some x.sem
set_option maxRecDepth 100000
theorem n1 : NameOk "sync/atomic.LoadUint64" (.load .u64) := ⟨by kernel_rfl, by kernel_rfl, by kernel_rfl, by kernel_rfl⟩
theorem n2 : NameOk "sync/atomic.LoadUint32" (.load .u32) := ⟨by kernel_rfl, by kernel_rfl, by kernel_rfl, by kernel_rfl⟩
theorem n3 : NameOk "sync/atomic.StoreUint32" .store := ⟨by kernel_rfl, by kernel_rfl, by kernel_rfl, by kernel_rfl⟩
theorem n4 : NameOk "sync/atomic.CompareAndSwapUint64" (.cas .u64) := ⟨by kernel_rfl, by kernel_rfl, by kernel_rfl, by kernel_rfl⟩
theorem n5 : NameOk "sync/atomic.CompareAndSwapInt32" (.cas .i32) := ⟨by kernel_rfl, by kernel_rfl, by kernel_rfl, by kernel_rfl⟩
theorem n6 : NameOk "sync/atomic.AddInt64" (.add .i64) := ⟨by kernel_rfl, by kernel_rfl, by kernel_rfl, by kernel_rfl⟩
theorem n7 : NameOk "sync/atomic.AddInt32" (.add .i32) := ⟨by kernel_rfl, by kernel_rfl, by kernel_rfl, by kernel_rfl⟩
theorem n8 : NameOk "maps.clone" .clone := ⟨by kernel_rfl, by kernel_rfl, by kernel_rfl, by kernel_rfl⟩
theorem n0 : Extern.allNextRows.lookup "" = none := by kernel_rfl

theorem xkOf_ok {n : String} {x : XK} (h : xkOf n = some x) : NameOk n x := by
  unfold xkOf at h
  have step : ∀ {b : Bool} {a : XK} {r : Option XK} {s : String}, b = (n == s) → cond b (some a) r = some x → (n = s ∧ x = a) ∨ r = some x := by
    intro b a r s hb hc
    cases hbb : b with
    | true => rw [hbb] at hc hb; cases hc; exact .inl ⟨by simpa using hb.symm, rfl⟩
    | false => rw [hbb] at hc; exact .inr hc
  rcases step rfl h with ⟨rfl, rfl⟩ | h; · exact n1
  rcases step rfl h with ⟨rfl, rfl⟩ | h; · exact n2
  rcases step rfl h with ⟨rfl, rfl⟩ | h; · exact n3
  rcases step rfl h with ⟨rfl, rfl⟩ | h; · exact n4
  rcases step rfl h with ⟨rfl, rfl⟩ | h; · exact n5
  rcases step rfl h with ⟨rfl, rfl⟩ | h; · exact n6
  rcases step rfl h with ⟨rfl, rfl⟩ | h; · exact n7
  rcases step rfl h with ⟨rfl, rfl⟩ | h; · exact n8
  cases h

theorem extOf_ok {P : Program} {f : FuncId} {x : XK} (h : extOf P f = some x) : ∃ F, P.funcs[f]? = some F ∧ (F.name == "runtime.NumGoroutine") = false ∧ F.body.isNone = true ∧ Extern.findNext F = none ∧ Extern.find F = some x.sem := by
  unfold extOf at h
  split at h
  case h_2 => cases h
  rename_i F hF0
  have hF := funT_ok hF0
  split at h
  case h_1 => cases h
  rename_i hb
  obtain ⟨h1, h2⟩ := cond_some h
  simp only [Bool.and_eq_true, Bool.not_eq_true'] at h1
  have ho : F.origin = "" := by simpa using h1.1
  obtain ⟨k1, k2, k3, k4⟩ := xkOf_ok h2
  refine ⟨F, hF, h1.2, by rw [hb]; rfl, ?_, ?_⟩
  · unfold Extern.findNext
    simp only [k1, ho, n0]
    rfl
  · unfold Extern.find
    simp only [k2, k3, k4]
    rfl

section
variable {P : Program} {E : Env} {m m' : M} {w : World}
theorem rd1 (h : Rel E m w) {b o : Nat} {v : V} {x : EB} (hr : rd m b o 1 = some [v]) (hb : E b = some x) : ∃ u, w.cell? ⟨x.r, x.s + o, none⟩ = some u ∧ rep E v = some u ∧ w.frozen? ⟨x.r, x.s + o, none⟩ = false := by
  unfold rd at hr
  split at hr
  · rename_i cs root al hl
    rcases sub_some hr with ⟨h1, _, hle⟩ | ⟨h1, _⟩
    · refine h.read hl rfl ?_ hb
      have := congrArg (fun q => q[0]?) h1
      simp only [List.getElem?_cons_zero, List.getElem?_take, List.getElem?_drop] at this
      simpa using this.symm
    · cases h1
  · cases hr

theorem eExt_ok (h : Rel E m w) {f : FuncId} {x : XK} (hx : extOf P f = some x) {args : List V} {us : List Value} {v : V} (hu : reps E args = some us) (he : eExt x args m = some (v, m')) :
    ∃ E' w' u, (callFunc f us.toArray).run P w = .ok (.value u) w' ∧ rep E' v = some u ∧ Rel E' m' w' ∧ Step E m w E' m' w' := by
  obtain ⟨F, hF, hname, hb, hn, hfind⟩ := extOf_ok hx
  unfold eExt at he
  split at he
  · -- load
    rename_i k b o
    obtain ⟨u1, us1, rfl, hu1, hr1⟩ := reps_inv hu
    simp only [reps, Option.some.injEq] at hr1; subst hr1
    obtain ⟨xb, hxb, rfl⟩ := rep_ptr hu1
    split at he
    · rename_i k' n hrd
      obtain ⟨hk, he2⟩ := cond_some he
      clear he
      cases keq_eq hk; cases he2
      obtain ⟨u, hc, hru, hz⟩ := rd1 h hrd hxb
      cases hru
      exact ⟨E, w, _, run_call_load hF hname hb hn k hfind hc, rfl, h, Step.refl _ _ _⟩
    · cases he
  · -- store
    rename_i b o k y
    obtain ⟨u1, us1, rfl, hu1, hr1⟩ := reps_inv hu
    obtain ⟨u2, us2, rfl, hu2, hr2⟩ := reps_inv hr1
    simp only [reps, Option.some.injEq] at hr2; subst hr2
    obtain ⟨xb, hxb, rfl⟩ := rep_ptr hu1
    cases hu2
    split at he
    · rename_i m2 hw
      cases he
      obtain ⟨⟨v0, hc⟩, hz, hrel, hst⟩ := h.write (u := .int k y) hw rfl hxb
      exact ⟨E, _, _, run_call_store hF hname hb hn hfind hc hz, rfl, hrel, hst⟩
    · cases he
  · -- cas
    rename_i k b o k1 n k2 y
    obtain ⟨u1, us1, rfl, hu1, hr1⟩ := reps_inv hu
    obtain ⟨u2, us2, rfl, hu2, hr2⟩ := reps_inv hr1
    obtain ⟨u3, us3, rfl, hu3, hr3⟩ := reps_inv hr2
    simp only [reps, Option.some.injEq] at hr3; subst hr3
    obtain ⟨xb, hxb, rfl⟩ := rep_ptr hu1
    cases hu2; cases hu3
    split at he
    · rename_i k3 z hrd
      obtain ⟨hk, he2⟩ := cond_some he
      clear he
      have he := he2
      clear he2
      simp only [Bool.and_eq_true] at hk
      cases keq_eq hk.1.1; cases keq_eq hk.1.2; cases keq_eq hk.2
      obtain ⟨u, hc, hru, hz⟩ := rd1 h hrd hxb
      cases hru
      cases hi : ieq z n with
      | true =>
        rw [hi] at he
        rw [ieq_eq] at hi
        have hzn : z = n := by simpa using hi
        subst hzn
        dsimp only [cond_true] at he
        split at he
        · rename_i m2 hw
          cases he
          obtain ⟨_, hz2, hrel, hst⟩ := h.write (u := .int k y) hw rfl hxb
          exact ⟨E, _, _, run_call_cas_hit hF hname hb hn k hfind hc hz, rfl, hrel, hst⟩
        · cases he
      | false =>
        rw [hi] at he
        rw [ieq_eq] at hi
        have hzn : ¬ z = n := by simpa using hi
        cases he
        exact ⟨E, w, _, run_call_cas_miss hF hname hb hn k hfind hc hz hzn, rfl, h, Step.refl _ _ _⟩
    · cases he
  · -- add
    rename_i k b o k1 y
    obtain ⟨u1, us1, rfl, hu1, hr1⟩ := reps_inv hu
    obtain ⟨u2, us2, rfl, hu2, hr2⟩ := reps_inv hr1
    simp only [reps, Option.some.injEq] at hr2; subst hr2
    obtain ⟨xb, hxb, rfl⟩ := rep_ptr hu1
    cases hu2
    split at he
    · rename_i k3 z hrd
      obtain ⟨hk, he2⟩ := cond_some he
      clear he
      have he := he2
      clear he2
      simp only [Bool.and_eq_true] at hk
      cases keq_eq hk.1; cases keq_eq hk.2
      obtain ⟨u, hc, hru, hz⟩ := rd1 h hrd hxb
      cases hru
      split at he
      · rename_i m2 hw
        cases he
        obtain ⟨_, hz2, hrel, hst⟩ := h.write (u := .int k (fw k (z + y))) hw rfl hxb
        refine ⟨E, _, _, run_call_add (s := fw k (z + y)) hF hname hb hn k hfind hc hz ?_, rfl, hrel, hst⟩
        rw [fw_eq]
        simp [Op.intArith]
      · cases he
    · cases he
  · -- maps.clone
    rename_i t b
    obtain ⟨u1, us1, rfl, hu1, hr1⟩ := reps_inv hu
    simp only [reps, Option.some.injEq] at hr1; subst hr1
    simp only [rep, Option.map_eq_some_iff] at hu1
    obtain ⟨u2, ⟨xb, hxb, rfl⟩, rfl⟩ := hu1
    split at he
    · rename_i es clock root al hl
      obtain ⟨hlt, he⟩ := cond_some he
      cases he
      obtain ⟨ob, ho, l, hl2, rfl⟩ := obj_eq h hl hxb
      have hn6 : m.n < 65536 := by simpa using hlt
      obtain ⟨hrel, hst⟩ := h.alloc (.map es clock) (.map l.toArray clock) ⟨w.heap.size, 0, 0, .nilIface⟩ rfl hn6 ⟨l, ereps_mono (E.le_add _ (h.unmapped (Nat.le_refl _))) _ _ hl2, rfl⟩
      refine ⟨_, _, .iface t (.map (some w.heap.size)), ?_, ?_, hrel, hst⟩
      · rw [run_callFunc_extern hF hname hb hn hfind]
        show (Sem.run P (getObj xb.r >>= fun o => match o with | .map entries clock => (newObj (.map entries clock) >>= fun x => pure (Value.iface t (.map (some x)))) | _ => stuck "maps.clone: a map expected") w).andThen _ = _
        simp [Sem.run_bind, run_getObj ho (fun _ _ _ => by simp), run_newObj_alloc, Result.andThen]
      · simp only [rep, Env.add_same, Option.map_some]
    · cases he
  · cases he
end
end Go.Proofs.YtdjpjmojmppjkaaGreat.Eng

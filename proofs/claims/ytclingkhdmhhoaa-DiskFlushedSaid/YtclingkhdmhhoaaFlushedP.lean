/- DiskFlushed: for every input it returns true, and its arguments read as before. No condition. -/
import Derived.Test.YtclingkhdmhhoaaOpen5
import Derived.Below
import Derived.ShutString
import Derived.ChangeOld
namespace Go.Proofs.Ytclingkhdmhhoaa
open Go.ChangeShapes Go.WideShapes Go.ChangeAt Go.RowKit
set_option linter.unusedVariables false

theorem own3 : ownKnob Try.prog.godebug = none := by kernel_rfl
theorem laid3 : laidOutB Try.prog = true := by kernel_rfl

set_option maxHeartbeats 1000000 in
set_option maxRecDepth 4000 in
theorem flushed_long {w0 : World} {fa la ka : Option Addr} {n m p fc lc kc : Nat} {torn tear : Int} (h : 60 < n ∨ 60 < m ∨ 100 < p) :
    Calls Try.prog 3 #[.slice fa n fc, .slice la m lc, .slice ka p kc, .int .i64 torn, .int .i64 tear] w0 fun e w' => e = .returned (.bool true) ∧ Below w0.heap.size w0 w' := by
  rcases Nat.lt_or_ge 60 n with h1 | h1
  · have q1 : decide ((60 : Int) < (n : Int)) = true := by simp; omega
    clear h h1
    go_enter Try.func3, Try.ntmps3
    go_wp2_with (go_at_call 12; refine (speaks05 _).mono ?_; rintro e w ⟨rfl, hs⟩)
    go_ret
    exact ⟨rfl, hs.below⟩
  · have q1 : decide ((60 : Int) < (n : Int)) = false := by simp; omega
    rcases Nat.lt_or_ge 60 m with h2 | h2
    · have q2 : decide ((60 : Int) < (m : Int)) = true := by simp; omega
      clear h h1 h2
      go_enter Try.func3, Try.ntmps3
      go_wp2_with (go_at_call 12; refine (speaks05 _).mono ?_; rintro e w ⟨rfl, hs⟩)
      go_ret
      exact ⟨rfl, hs.below⟩
    · have q2 : decide ((60 : Int) < (m : Int)) = false := by simp; omega
      have q3 : decide ((100 : Int) < (p : Int)) = true := by simp; omega
      clear h h1 h2
      go_enter Try.func3, Try.ntmps3
      go_wp2_with (go_at_call 12; refine (speaks05 _).mono ?_; rintro e w ⟨rfl, hs⟩)
      go_ret
      exact ⟨rfl, hs.below⟩

theorem flushed_any {w0 : World} {fv lv kv : Value} {first later : List (Int × Wr)} {kp : List Bool} {torn tear : Int} (hf : CallsAt w0 fv first) (hl : CallsAt w0 lv later) (hk : Bools w0 kv kp) :
    Calls Try.prog 3 #[fv, lv, kv, .int .i64 torn, .int .i64 tear] w0 fun e w' => e = .returned (.bool true) ∧ Below w0.heap.size w0 w' := by
  by_cases h : 60 < first.length ∨ 60 < later.length ∨ 100 < kp.length
  · obtain ⟨fa, fc, rfl, _⟩ := hf
    obtain ⟨la, lc, rfl, _⟩ := hl
    obtain ⟨ka, kc, rfl, _⟩ := hk
    exact flushed_long h
  · exact flushed_walk hf hl hk (by omega) (by omega) (by omega)

set_option maxRecDepth 100000 in
theorem flushed_lifted (os : Os) (started : os.Started) (H : Type) (enc : TypeId × Value → H) :
    ReturnsInHanded {} Try.checked os 3 .any (Rows.diskFlushedSpec.pre6 enc Try.prog Try.f3 Rows.diskFlushedRow.domain false) (Rows.diskFlushedSpec.post enc Try.prog Try.f3 false true false false) := by
  refine returnsInHanded_of_change (C := Try.checked) own3 started (by kernel_rfl) Try.func3
    (ChangeSpec.witness6 (enc := enc) (C := Try.checked) false ⟨#[], #[.slice none 0 0, .slice none 0 0, .slice none 0 0, .int .i64 0, .int .i64 0], []⟩ 8 (by kernel_rfl) (by kernel_rfl) (by kernel_rfl) (by kernel_rfl)) ?_
  intro W base args ds gs before hval0 hW hcnd _
  have hval : ∀ (j : Nat) t v, Try.f3.params[j]? = some t → args[j]? = some v → Value.okWide Try.prog W .any base t v := hval0
  have hW' := hW
  obtain ⟨p, q, hA0, hV, rfl, hfz, hnd⟩ := hW
  have hA : DataW.TrodAll enc Try.prog W 0 (fun _ => true) true Try.f3.params.toList args.toList ds p := hA0
  rw [Try.params3] at hA hval
  obtain ⟨v0, vs0, d0, ds0, p0, q0, hargs, rfl, rfl, h0, r0⟩ := trodAll_cons hA
  obtain ⟨v1, vs1, d1, ds1, p1, q1, rfl, rfl, rfl, h1, r1⟩ := trodAll_cons r0
  obtain ⟨v2, vs2, d2, ds2, p2, q2, rfl, rfl, rfl, h2, r2⟩ := trodAll_cons r1
  obtain ⟨v3, vs3, d3, ds3, p3, q3, rfl, rfl, rfl, h3, r3⟩ := trodAll_cons r2
  obtain ⟨v4, vs4, d4, ds4, p4, q4, rfl, rfl, rfl, h4, r4⟩ := trodAll_cons r3
  obtain ⟨rfl, rfl, rfl⟩ := trodAll_nil r4
  obtain rfl : args = #[v0, v1, v2, v3, v4] := by cases args; simp_all
  obtain ⟨rfl, rfl⟩ := trodVars_none hV
  obtain ⟨first, c0⟩ := calls_of (okWide_slice Try.underlying22 (hval 0 22 v0 rfl rfl)) h0
  obtain ⟨later, c1⟩ := calls_of (okWide_slice Try.underlying22 (hval 1 22 v1 rfl rfl)) h1
  obtain ⟨kp, c2⟩ := bools_of (okWide_slice Try.underlying23 (hval 2 23 v2 rfl rfl)) h2
  have lt0 : ∀ x ∈ p0, x.block < W.heap.size := by obtain ⟨m, hm⟩ := h0; exact DataW.trod_lt m _ _ _ hm
  have lt1 : ∀ x ∈ p1, x.block < W.heap.size := by obtain ⟨m, hm⟩ := h1; exact DataW.trod_lt m _ _ _ hm
  have lt2 : ∀ x ∈ p2, x.block < W.heap.size := by obtain ⟨m, hm⟩ := h2; exact DataW.trod_lt m _ _ _ hm
  obtain ⟨torn, rfl, rfl, rfl, w3⟩ := open_int Try.underlying3 (hval 3 3 v3 rfl rfl) h3
  obtain ⟨tear, rfl, rfl, rfl, w4⟩ := open_int Try.underlying3 (hval 4 3 v4 rfl rfl) h4
  clear hA0 hval0
  refine (flushed_any c0 c1 c2).mono fun e W' ⟨he, bel⟩ => ?_
  subst he
  exact ⟨_, rfl, _, _, _, [], _, [], hW', trodAll_mk1 (shut_bool Try.underlying4 _), (trodAll_cons_mk (Below.trod laid3 (by kernel_rfl) (of_decide_eq_true (by kernel_rfl)) h0 bel lt0)
    (trodAll_cons_mk (Below.trod laid3 (by kernel_rfl) (of_decide_eq_true (by kernel_rfl)) h1 bel lt1) (trodAll_cons_mk (Below.trod laid3 (by kernel_rfl) (of_decide_eq_true (by kernel_rfl)) h2 bel lt2)
      (trodAll_cons_mk (shut_int Try.underlying3 w3) (trodAll_cons_mk (shut_int Try.underlying3 w4) trodAll_mk0))))), rfl, bel.frame _, fun h => by cases h⟩

theorem flushed_holds : Rows.DiskFlushedSaid :=
  OpenClaim.holds_of_wide 3 Try.f3 rfl rfl rfl rfl rfl rfl rfl ⟨rfl, rfl, rfl, rfl, rfl⟩ rfl rfl rfl rfl rfl (by kernel_rfl) Try.func3 (by kernel_rfl)
    (of_decide_eq_true (by kernel_rfl)) (by unfold Func.isWrapper; first | (rw [if_pos (by decide +kernel)]; kernel_rfl) | (rw [if_neg (by decide +kernel)]; exact ⟨rfl, rfl⟩))
    (fun os started H enc _ => flushed_lifted os started H enc)
end Go.Proofs.Ytclingkhdmhhoaa

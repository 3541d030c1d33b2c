/- The walk of the reference's Same. No condition. -/
import Derived.Test.YtclingkhdmhhoaaDisk5
namespace Go.Proofs.Ytclingkhdmhhoaa
open Go.RowKit
set_option linter.unusedSimpArgs false

theorem sec_cell {A : List (List UInt8)} {junk : List Value} (hA : Sec A) {j : Nat} (hj : j < A.length) :
    0 + j * 64 + 64 ≤ (secs A ++ junk).length ∧ cut (secs A ++ junk) (0 + j * 64) 64 = sv A[j] := by
  have h1 : (secs A).length = A.length * 64 := by have := flat_len hA.cells; simpa [secs] using this
  have h2 : (j + 1) * 64 ≤ A.length * 64 := Nat.mul_le_mul_right _ hj
  refine ⟨by simp only [List.length_append]; omega, ?_⟩
  rw [Nat.zero_add]
  exact flat_cut hA.cells (by simp [hj])

set_option maxHeartbeats 1000000 in
set_option maxRecDepth 4000 in
theorem same_any {w0 : World} {ga gb ca cb : Nat} {A B : List (List UInt8)} {ja jb : List Value} (ha : w0.heap[ga]? = some (row 38 (secs A ++ ja))) (hb : w0.heap[gb]? = some (row 38 (secs B ++ jb)))
    (hA : Sec A) (hB : Sec B) (hlA : A.length ≤ 65536) (hlB : B.length ≤ 65536) :
    Calls Try.prog 18 #[.slice (some ⟨ga, 0, none⟩) A.length ca, .slice (some ⟨gb, 0, none⟩) B.length cb] w0 fun e w' => e = .returned (.bool (A == B)) ∧ ∃ n, w' = w0.drewN n := by
  by_cases hl : A.length = B.length
  · have hne : ((A.length : Int) != (B.length : Int)) = false := by simp [hl]
    have hne2 : ((A.length : Int) == (B.length : Int)) = true := by simp [hl]
    replace hl := hid hl
    replace ha := hid ha
    replace hb := hid hb
    go_enter Try.func18, Try.ntmps18
    go_wp2
    go_loopw [5] (fun i wr => ∃ j : Nat, j ≤ A.length ∧ i = .int .i64 j ∧ (∃ n, wr = w0.drewN n) ∧ A.take j = B.take j) (fun i _ => A.length - (intOf i).toNat)
    case atStart => exact ⟨0, Nat.zero_le _, rfl, ⟨0, rfl⟩, rfl⟩
    case round =>
      obtain ⟨j, hj, rfl, ⟨n, rfl⟩, htk⟩ := hrel
      replace htk := hid htk
      by_cases hlt : j < A.length
      · have hltB : j < B.length := by have := hl.out; omega
        obtain ⟨f1, c1⟩ := sec_cell (junk := ja) hA hlt
        obtain ⟨f2, c2⟩ := sec_cell (junk := jb) hB hltB
        have l1 := hA A[j] (List.getElem_mem hlt)
        have l2 := hB B[j] (List.getElem_mem hltB)
        have htk2 : A[j] = B[j] → A.take (j + 1) = B.take (j + 1) := by
          intro e
          rw [List.take_succ_eq_append_getElem hlt, List.take_succ_eq_append_getElem hltB, htk.out, e]
        have hfalse : A[j] ≠ B[j] → (A == B) = false := by
          intro e
          rw [beq_eq_false_iff_ne]
          intro h; subst h; exact e rfl
        have hbin := fun w => run_neq_arr (P := Try.prog) (w := w) (kk := .u8) (t := 38) Try.underlying38 sc5 Try.underlying5 l1 l2
        go_wp2
        refine wp_region_phases [] (wsOf [(w0.drewN n).drew]) follows (by kernel_rfl) (by kernel_rfl) rfl ?_
        refine LinP.pure rfl rfl (ex_move (ev rfl)) (pu rfl (by simp only [List.set_cons_succ, List.set_cons_zero]; rfl)) ?_
        refine LinP.pure rfl rfl (ex_move (ev rfl)) (pu rfl (by simp only [List.set_cons_succ, List.set_cons_zero]; rfl)) ?_
        refine LinP.pure rfl rfl (ex_indexAddr st33 (ev rfl) (ev rfl) hlt) (pu rfl (by simp only [List.set_cons_succ, List.set_cons_zero]; rfl)) ?_
        refine LinP.rd 0 rfl rfl (by kernel_rfl) (by kernel_rfl) (ex_ld_row (w := (w0.drewN n).drew) (ev rfl) ag38 ha.out f1 c1) (pu rfl (by simp only [List.set_cons_succ, List.set_cons_zero]; rfl)) ?_
        refine LinP.pure rfl rfl (ex_move (ev rfl)) (pu rfl (by simp only [List.set_cons_succ, List.set_cons_zero]; rfl)) ?_
        refine LinP.pure rfl rfl (ex_move (ev rfl)) (pu rfl (by simp only [List.set_cons_succ, List.set_cons_zero]; rfl)) ?_
        refine LinP.pure rfl rfl (ex_indexAddr st33 (ev rfl) (ev rfl) hltB) (pu rfl (by simp only [List.set_cons_succ, List.set_cons_zero]; rfl)) ?_
        refine LinP.rd 0 rfl rfl (by kernel_rfl) (by kernel_rfl) (ex_ld_row (w := (w0.drewN n).drew) (ev rfl) ag38 hb.out f2 c2) (pu rfl (by simp only [List.set_cons_succ, List.set_cons_zero]; rfl)) ?_
        refine LinP.pure rfl rfl (fun w => ex_bin (ev rfl) (ev rfl) (eqguard38 _ _ _ _ _ w) (hbin w)) (pu rfl (by simp only [List.set_cons_succ, List.set_cons_zero]; rfl)) ?_
        refine LinP.done ?_
        clear hbin
        by_cases he : A[j] = B[j]
        · have hb1 : (!(A[j] == B[j])) = false := by simp [he]
          rw [hb1]
          have h3 := hid (htk2 he)
          clear htk2 hfalse he hb1
          go_wp2
          go_roundw
          case rel => exact ⟨j + 1, hlt, by go_num, ⟨n + 1, rfl⟩, h3.out⟩
          case measure => simp [intOf]; omega
        · have hb1 : (!(A[j] == B[j])) = true := by simp [he]
          rw [hb1]
          have h3 := hid (hfalse he)
          clear htk2 hfalse he hb1
          go_wp2
          go_ret
          exact ⟨by rw [h3.out]; rfl, n + 1, rfl⟩
      · obtain rfl : j = A.length := by omega
        have h3 : (A == B) = true := by
          have := htk.out
          rw [List.take_length, hl.out, List.take_length] at this
          simpa using this
        replace h3 := hid h3
        go_wp2
        go_ret
        exact ⟨by rw [h3.out]; rfl, n, rfl⟩
  · have hne : ((A.length : Int) != (B.length : Int)) = true := by simp; omega
    have h3 : (A == B) = false := by
      rw [beq_eq_false_iff_ne]; rintro rfl; exact hl rfl
    rw [h3]
    clear ha hb h3 hl
    go_enter Try.func18, Try.ntmps18
    go_wp2
    go_ret
    exact ⟨rfl, 0, rfl⟩
end Go.Proofs.Ytclingkhdmhhoaa

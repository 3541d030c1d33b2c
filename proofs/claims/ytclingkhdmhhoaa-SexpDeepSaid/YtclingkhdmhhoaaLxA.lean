/- The walks of lex's functions that tell what a byte is. No condition. -/
import Derived.Test.YtclingkhdmhhoaaDisk
import Derived.Test.YtclingkhdmhhoaaLxSpec
import Derived.Test.YtclingkhdmhhoaaShelf
namespace Go.Proofs.Ytclingkhdmhhoaa
open Go.RowKit
set_option linter.unusedSimpArgs false
set_option linter.unusedVariables false

theorem ret_b {a b : Bool} (h : a = b) : Ending.returned (.bool a) = .returned (.bool b) := by rw [h]

theorem blank_any (c : Int) (w : World) : Calls Try.prog 62 #[.int .u8 c] w fun e w' => e = .returned (.bool (blankI c)) ∧ w = w' := by
  generalize hb : blankI c = b
  replace hb := hid hb
  go_enter Try.func62, Try.ntmps62
  go_wp2
  all_goals
    go_ret
    exact ⟨ret_b (by rw [← hb.out]; simp [blankI, *]), rfl⟩
theorem digit_any (c : Int) (w : World) : Calls Try.prog 68 #[.int .u8 c] w fun e w' => e = .returned (.bool (digitI c)) ∧ w = w' := by
  generalize hb : digitI c = b
  replace hb := hid hb
  go_enter Try.func68, Try.ntmps68
  go_wp2
  all_goals
    go_ret
    exact ⟨ret_b (by rw [← hb.out]; simp [digitI, *] <;> omega), rfl⟩
theorem plain_any (c : Int) (w : World) : Calls Try.prog 88 #[.int .u8 c] w fun e w' => e = .returned (.bool (plainI c)) ∧ w = w' := by
  generalize hb : plainI c = b
  generalize hB : blankI c = B
  replace hb := hid hb
  replace hB := hid hB
  go_enter Try.func88, Try.ntmps88
  go_wp2_with (go_at_call 62; refine (blank_any _ _).mono ?_; rintro e w' ⟨rfl, rfl⟩; rw [hB.out])
  all_goals
    go_ret
    exact ⟨ret_b (by rw [← hb.out, plainI, hB.out]; simp [*] <;> omega), rfl⟩
def marks : List UInt8 := [126, 33, 64, 36, 37, 94, 38, 42, 95, 45, 43, 61, 60, 62, 46, 63, 47]
theorem mark_all : ∀ n : Nat, n < 256 → decide (0 ≤ Lib.indexByte marks ((n : Int).toNat.toUInt8)) = markI n := by decide +kernel
theorem mark_any (c : UInt8) (w : World) : Calls Try.prog 91 #[.string ⟨#[126, 33, 64, 36, 37, 94, 38, 42, 95, 45, 43, 61, 60, 62, 46, 63, 47]⟩, .int .u8 c.toNat] w fun e w' => ∃ k : Int, e = .returned (.int .i64 k) ∧ markI c.toNat = decide (0 ≤ k) ∧ w = w' :=
  (Try.strings_IndexByte _ c.toNat w).mono fun _ _ ⟨he, hw⟩ => ⟨_, he, (mark_all c.toNat (by have := c.toNat_lt; omega)).symm, hw.symm⟩
theorem letter_any (c' : UInt8) (w : World) : Calls Try.prog 72 #[.int .u8 c'.toNat] w fun e w' => e = .returned (.bool (letterI c'.toNat)) ∧ w = w' := by
  have hm := mark_any c'
  generalize (c'.toNat : Int) = c at *
  generalize hb : letterI c = b
  replace hm := hid hm
  replace hb := hid hb
  go_enter Try.func72, Try.ntmps72
  go_wp2_with (go_at_call 91; refine (hm.out _).mono ?_; rintro e w' ⟨k, rfl, hk, rfl⟩; replace hk := hid hk)
  all_goals
    go_ret
    exact ⟨ret_b (by rw [← hb.out, letterI]; first | (rw [hk.out, Bool.eq_iff_iff]; simp; done) | (rw [hk.out, Bool.eq_iff_iff]; simp; omega) | (rw [Bool.eq_iff_iff]; simp; omega)), rfl⟩
theorem inner_any (c' : UInt8) (w : World) : Calls Try.prog 86 #[.int .u8 c'.toNat] w fun e w' => e = .returned (.bool (innerI c'.toNat)) ∧ w = w' := by
  have hl := letter_any c'
  generalize (c'.toNat : Int) = c at *
  have hb : innerI c = (digitI c || letterI c) := rfl
  generalize innerI c = b at *
  generalize hB : digitI c = B at *
  generalize hC : letterI c = C at *
  replace hb := hid hb
  replace hB := hid hB
  replace hC := hid hC
  replace hl := hid hl
  go_enter Try.func86, Try.ntmps86
  go_wp2_with (first
    | (go_at_call 68; refine (digit_any _ _).mono ?_; rintro e w' ⟨rfl, rfl⟩; rw [hB.out])
    | (go_at_call 72; refine (hl.out _).mono ?_; rintro e w' ⟨rfl, rfl⟩))
  all_goals
    go_ret
    exact ⟨ret_b (by rw [hb.out]; simp [*]), rfl⟩
theorem line_any (c : Int) (w : World) : Calls Try.prog 64 #[.int .u8 c] w fun e w' => e = .returned (.bool (lineI c)) ∧ w = w' := by
  go_enter Try.func64, Try.ntmps64
  go_wp2
  all_goals
    go_ret
    exact ⟨rfl, rfl⟩
theorem bar_any (c : Int) (w : World) : Calls Try.prog 87 #[.int .u8 c] w fun e w' => e = .returned (.bool (barI c)) ∧ w = w' := by
  have hb : barI c = (plainI c && c != 124 && c != 92) := rfl
  generalize barI c = b at *
  generalize hB : plainI c = B at *
  replace hb := hid hb
  replace hB := hid hB
  go_enter Try.func87, Try.ntmps87
  go_wp2_with (go_at_call 88; refine (plain_any _ _).mono ?_; rintro e w' ⟨rfl, rfl⟩; rw [hB.out])
  all_goals
    go_ret
    exact ⟨ret_b (by rw [hb.out]; simp [*]), rfl⟩
theorem quo_any (c : Int) (w : World) : Calls Try.prog 89 #[.int .u8 c] w fun e w' => e = .returned (.bool (quoI c)) ∧ w = w' := by
  have hb : quoI c = (plainI c && c != 34) := rfl
  generalize quoI c = b at *
  generalize hB : plainI c = B at *
  replace hb := hid hb
  replace hB := hid hB
  go_enter Try.func89, Try.ntmps89
  go_wp2_with (go_at_call 88; refine (plain_any _ _).mono ?_; rintro e w' ⟨rfl, rfl⟩; rw [hB.out])
  all_goals
    go_ret
    exact ⟨ret_b (by rw [hb.out]; simp [*]), rfl⟩
end Go.Proofs.Ytclingkhdmhhoaa

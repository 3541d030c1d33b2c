/- SnapLasts: the example of chapter 6. No condition. -/
import Derived.Test.YtclingkhdmhhoaaSnN
import Derived.Test.YtclingkhdmhhoaaLxW
namespace Go.Proofs.Ytclingkhdmhhoaa
open Go.RowKit
set_option linter.unusedSimpArgs false
set_option linter.unusedVariables false

def nine : List UInt8 := [49, 50, 51, 52, 53, 54, 55, 56, 57]
theorem crc_nine : crc nine = 3421780262 := by decide +kernel
set_option maxRecDepth 100000 in
theorem run_bs9 (w : World) : (Instr.buildSlice 43 9 #[(0, .int .u8 49), (1, .int .u8 50), (2, .int .u8 51), (3, .int .u8 52), (4, .int .u8 53), (5, .int .u8 54), (6, .int .u8 55), (7, .int .u8 56), (8, .int .u8 57)]).run Try.prog w = .ok (.slice (some ⟨w.heap.size, 0, none⟩) 9 9) (w.alloc (row 5 (sv nine))) := by
  go_simp; rfl
theorem sum_nine {w : World} {g : Nat} (hg : w.heap[g]? = some (fz (sv nine))) :
    Calls Try.prog 49 #[.slice (some ⟨g, 0, none⟩) 9 9] w fun e w' => e = .returned (.int .u32 3421780262) ∧ St w [] [] w' := by
  have := sum_any (l := nine) (txt_fz hg (show nine.length ≤ 9 by decide) (by decide)) (by decide)
  rw [crc_nine] at this
  exact this
theorem room8 (w : World) : Calls Try.prog 28 #[.int .i64 8] w fun e w' => e = .returned (.int .i64 192) ∧ w = w' := room_any 8 (by decide) w
set_option maxHeartbeats 1000000 in
set_option maxRecDepth 4000 in
theorem speaks6 (w0 : World) : Calls Try.prog 27 #[] w0 fun e w' => e = .returned (.bool true) ∧ St w0 [] [] w' := by
  have hs := St.nothing w0
  go_enter Try.func27, Try.ntmps27
  go_wp2_with (first
    | ((with_reducible refine gd_bs (n := 9) ?_); refine wl_of rfl (hs.bsn rfl run_bs9 ?_); intro gm w hgm hs)
    | ((with_reducible refine gd_cv (s := 43) ?_); refine wl_of rfl (hs.cvc 0 rfl rfl ?_); intro w hs; replace hs : St w0 [] ([(gm, fz (sv nine))]) w := hs)
    | (go_at_call 49; refine (sum_nine (hs.at 0 rfl)).mono ?_; rintro e w ⟨rfl, hs'⟩; replace hs : St w0 [] ([(gm, fz (sv nine))]) w := hs.plus hs'; clear hs')
    | (go_at_call 28; refine (room8 _).mono ?_; rintro e w' ⟨rfl, rfl⟩))
  go_ret
  exact ⟨rfl, hs.void⟩
end Go.Proofs.Ytclingkhdmhhoaa

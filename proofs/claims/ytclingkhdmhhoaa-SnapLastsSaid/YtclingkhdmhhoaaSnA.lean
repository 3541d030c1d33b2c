/- The walks of package snap's sums and numbers. No condition. -/
import Derived.Test.YtclingkhdmhhoaaBack
import Derived.Test.YtclingkhdmhhoaaRfA
namespace Go.Proofs.Ytclingkhdmhhoaa
open Go.RowKit
set_option linter.unusedSimpArgs false
set_option linter.unusedVariables false

theorem span_any (n : Nat) (hn : n ≤ 1048576) (w : World) : Calls Try.prog 50 #[.int .i64 n] w fun e w' => e = .returned (.int .i64 ((n / 2 : Nat) : Int)) ∧ w = w' := by
  go_enter Try.func50, Try.ntmps50
  go_wp2
  go_ret
  exact ⟨rfl, rfl⟩
theorem ret_i {k : IntKind} {a b : Int} (h : a = b) : Ending.returned (.int k a) = .returned (.int k b) := by rw [h]
def roomN (n : Nat) : Nat := (n / 2 - 1) * 64
theorem room_any (n : Nat) (hn : n ≤ 1048576) (w : World) : Calls Try.prog 28 #[.int .i64 n] w fun e w' => e = .returned (.int .i64 (roomN n)) ∧ w = w' := by
  have hr := hid (show roomN n = (n / 2 - 1) * 64 from rfl)
  go_enter Try.func28, Try.ntmps28
  go_wp2_with (go_at_call 50; refine (span_any n hn _).mono ?_; rintro e w' ⟨rfl, rfl⟩)
  go_ret
  exact ⟨ret_i (by rw [hr.out]; omega), rfl⟩

theorem bits_u32 (op : BinOp) (a b : Int) : 0 ≤ bits op .u32 a b ∧ bits op .u32 a b < 4294967296 := by
  unfold bits
  simp only
  rw [IntKind.wrap_u32]; omega
theorem bits_u64 (op : BinOp) (a b : Int) : 0 ≤ bits op .u64 a b ∧ bits op .u64 a b < 18446744073709551616 := by
  unfold bits
  simp only
  rw [IntKind.wrap_u64]; omega
theorem bits_u8 (op : BinOp) (a b : Int) : 0 ≤ bits op .u8 a b ∧ bits op .u8 a b < 256 := by
  unfold bits
  simp only
  rw [IntKind.wrap_u8]; omega
def tabStep (n : Int) : Int := bits .xor .u32 (n / 2) (3988292384 * bits .and .u32 n 1 % 4294967296)
def tabGo : Nat → Int → Int
  | 0, n => n
  | j + 1, n => tabGo j (tabStep n)
def tabV (i : Nat) : Int := tabGo 8 i
def tv (i : Nat) : Value := .int .u32 (tabV i)
def tabL : List Value := (List.range 256).map tv
def tabP (i : Nat) : List Value := (List.range i).map tv ++ List.replicate (256 - i) (.int .u32 0)
theorem tabP_len {i : Nat} (h : i ≤ 256) : (tabP i).length = 256 := by simp [tabP]; omega
theorem tabP_set {i : Nat} (h : i < 256) : (tabP i).set i (tv i) = tabP (i + 1) := by
  unfold tabP
  rw [List.set_append_right _ _ (by simp), List.range_succ, List.map_append]
  have e : 256 - i = (256 - (i + 1)) + 1 := by omega
  rw [e, List.replicate_succ]
  simp
theorem tabP_all : tabP 256 = tabL := by simp [tabP, tabL]
theorem tabGo_bd : ∀ (j : Nat) (n : Int), 0 ≤ n → n < 4294967296 → 0 ≤ tabGo j n ∧ tabGo j n < 4294967296
  | 0, n, h0, h1 => ⟨h0, h1⟩
  | j + 1, n, _, _ => tabGo_bd j (tabStep n) (bits_u32 _ _ _).1 (bits_u32 _ _ _).2

theorem results78 {w : World} {b : Nat} {l : List Value} (hb : w.heap[b]? = some (row 113 l)) (hl : l.length = 256) {tmps : Array Value} (t0 : tmps.getD 0 undef = .pointer (some ⟨b, 0, none⟩)) :
    (results Try.f78 tmps).run Try.prog w = .ok (.agg l.toArray) w := by
  have l3 := run_ld_row (P := Try.prog) ag113 hb (off := 0) (by omega)
  have e3 : cut l 0 256 = l := by simp [cut, ← hl]
  rw [e3] at l3
  rw [Array.getD_eq_getD_getElem?] at t0
  simp [results, Try.f78, t0, asAddr, Sem.run_bind, l3]
theorem tv_one (l : List Nat) : ∀ v ∈ l.map tv, v.oneCell' = true := by
  intro v hv
  obtain ⟨i, _, rfl⟩ := List.mem_map.1 hv
  rfl
set_option maxHeartbeats 1000000 in
set_option maxRecDepth 4000 in
theorem table_any (w0 : World) : Calls Try.prog 78 #[] w0 fun e w' => e = .returned (.agg tabL.toArray) ∧ St w0 [] [] w' := by
  have hs := St.nothing w0
  go_enter Try.func78, Try.ntmps78
  go_wp2_with (first
    | ((with_reducible refine gd_al ?_); refine wl_of rfl (hs.al zc113 ?_); intro tb w htb hs))
  replace hs : St w0 [] [(tb, row 113 (tabP 0))] w := hs
  go_loopg [1, 2, 3] 256 (fun g v1 v2 iv wr => ∃ i : Nat, iv = .int .i64 i ∧ i ≤ 256 ∧ g = 256 - i ∧ St w0 [] [(tb, row 113 (tabP i))] wr)
  case atStart => exact ⟨0, rfl, by omega, rfl, hs⟩
  case round =>
    clear hs
    obtain ⟨i, rfl, hi, rfl, hs⟩ := hrel
    by_cases hlt : i < 256
    · go_wp2_with fail
      go_loopg [2, 8] 8 (fun g nv jv wr => ∃ (j : Nat) (n : Int), jv = .int .i64 j ∧ nv = .int .u32 n ∧ 0 ≤ n ∧ n < 4294967296 ∧ j ≤ 8 ∧ g = 8 - j ∧ Hid (tabGo (8 - j) n = tabV i) ∧ St w0 [] [(tb, row 113 (tabP i))] wr)
      case atStart => exact ⟨0, (i : Int), rfl, rfl, by omega, by omega, by omega, rfl, hid rfl, hs⟩
      case round =>
        clear hs
        obtain ⟨j, n, rfl, rfl, hn0, hn1, hj, rfl, htg, hs⟩ := hrel
        by_cases hjl : j < 8
        · replace hs := hid hs
          go_wp2_with fail
          go_roundg (8 - (j + 1))
          case measure => omega
          case rel => exact ⟨j + 1, tabStep n, by go_num, rfl, (bits_u32 _ _ _).1, (bits_u32 _ _ _).2, hjl, rfl, hid (by
            have := htg.out
            rw [show 8 - j = (8 - (j + 1)) + 1 by omega] at this
            exact this), hs.out⟩
        · obtain rfl : j = 8 := by omega
          have hn : n = tabV i := htg.out
          subst hn
          have hset := hid (tabP_set hlt)
          have hlen := tabP_len (Nat.le_of_lt hlt)
          replace hlen := hid hlen
          generalize hV : tabV i = V at *
          have hV' := hid hV
          clear hV htg
          go_wp2_with (first
            | ((with_reducible refine gd_ia ?_); refine wl_of rfl (wp_of_run (ex_indexAddr_arr ar113 (by first | exact ev rfl | rfl) (by first | exact ev rfl | rfl) hlt _) ?_))
            | ((with_reducible refine gd_st (ty := 63) ?_); refine wl_of rfl (hs.st0 0 (off := 0 + i * 1) rfl rfl (sc_of rfl) (by first | exact ev rfl | rfl) (by rfl) (by rw [hlen.out]; omega) ?_); intro w hs; replace hs : St w0 [] [(tb, row 113 (tabP (i + 1)))] w := (by
                have h2 := hs
                simp only [List.set_cons_zero] at h2
                rw [Nat.zero_add, Nat.mul_one, ← hV'.out] at h2
                rw [← hset.out]
                exact h2)))
          go_roundg (256 - (i + 1))
          case measure => omega
          case rel => exact ⟨i + 1, by go_num, hlt, rfl, hs⟩
    · obtain rfl : i = 256 := by omega
      rw [tabP_all] at hs
      have hl : tabL.length = 256 := by simp [tabL]
      have h1 : ∀ v ∈ tabL, v.oneCell' = true := tv_one _
      generalize hL : tabL = L at *
      replace hL := hid hL
      replace hl := hid hl
      go_wp2_with (first
        | ((with_reducible refine gd_ld (ty := 113) ?_); refine wl_of rfl (hs.lda 0 rfl rfl ag113 (vs := L) (Nat.le_of_eq (by rw [hl.out])) (by simp [cut, ← hl.out]) ?_))
        | ((with_reducible refine gd_st (ty := 113) ?_); refine wl_of rfl (hs.sta 0 rfl rfl ag113 (vs := L) (by first | exact ev rfl | rfl) hl.out h1 (Nat.le_of_eq (by rw [hl.out])) (splice_all rfl) ?_); intro w hs; rw [put_none]; simp only [List.set_cons_zero] at hs))
      refine bodyPost_ret (results78 (hs.at 0 rfl) hl.out rfl) rfl ?_
      exact ⟨by rw [hL.out], hs.void⟩
end Go.Proofs.Ytclingkhdmhhoaa

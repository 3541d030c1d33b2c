/- The walk of the law LexSymbols. No condition. -/
import Derived.Test.YtclingkhdmhhoaaLyA
import Derived.Test.YtclingkhdmhhoaaLxL
namespace Go.Proofs.Ytclingkhdmhhoaa
open Go.RowKit
set_option linter.unusedSimpArgs false
set_option linter.unusedVariables false

theorem symB_no {x s : ByteArray} (h : symB x s = false) : (∃ k, readC x.data.toList 0 = .error k) ∨ (∃ ts, readC x.data.toList 0 = .ok ts ∧ toksB ts [⟨3, s.data.toList, 0⟩] = false) := by
  unfold symB at h
  cases hr : readC x.data.toList 0 with
  | error k => exact .inl ⟨k, rfl⟩
  | ok ts => rw [hr] at h; exact .inr ⟨ts, rfl, h⟩
theorem run_bs2s (a b : ByteArray) (w : World) : (Instr.buildSlice 58 2 #[(0, .string a), (1, .string b)]).run Try.prog w = .ok (.slice (some ⟨w.heap.size, 0, none⟩) 2 2) (w.alloc (row 9 [.string a, .string b])) := by
  go_simp; rfl
theorem Tks.lone {w : World} {g : Nat} {t : Tok} (hg : w.heap[g]? = some (row 54 t.cells)) : Tks w (.slice (some ⟨g, 0, none⟩) 1 1) [t] := by
  refine ⟨_, _, rfl, by simp, .inr ⟨g, 0, rfl, fun i u hi j v hj => ?_⟩⟩
  cases i with
  | zero =>
    cases hi
    rw [row_cell hg]; simpa using hj
  | succ i => simp at hi
theorem bs1_run (w : World) (t : Tok) : (Instr.buildSlice 44 1 #[(0, .agg t.cells.toArray)]).run Try.prog w = .ok (.slice (some ⟨w.heap.size, 0, none⟩) 1 1) (w.alloc (row 54 t.cells)) := run_bs1 el44 (by decide) rfl rfl

set_option maxHeartbeats 2000000 in
set_option maxRecDepth 10000 in
theorem symbols_1 {w0 : World} {s : ByteArray} (hsz : s.size ≤ 300) (h1 : symB s s = true) :
    Calls Try.prog 7 #[.string s] w0 fun e w' => e = .returned (.bool true) ∧ Below w0.heap.size w0 w' := by
  have hs := St.nothing w0
  have q1 : decide ((300 : Int) < (s.size : Int)) = false := by simp; omega
  have h1 := hid h1
  have hb2 := hid (barS_size s)
  go_enter Try.func7, Try.ntmps7
  go_wp2_with (first
    | (go_at_call 22; refine (speaks7 _).mono ?_; rintro e w ⟨rfl, hs'⟩; replace hs := hs.plus hs'; clear hs'; simp only [List.append_nil] at hs)
    | (go_at_call 26; refine (symbol_1 (by omega) h1.out).mono ?_; rintro e w ⟨rfl, hs'⟩; replace hs := hs.plus hs'; clear hs'; simp only [List.append_nil] at hs)
    | ((with_reducible refine gd_bs (n := 2) ?_); refine wl_of rfl (hs.bsn rfl (run_bs2s s (barS s)) ?_); intro gs w hgs hs))
  go_loopg [25] 1 (fun g iv wr => ∃ n : Nat, iv = .int .i64 n ∧ n < 1 ∧ g = 1 - n ∧ St w0 [] [(gs, row 9 [.string s, .string (barS s)])] wr)
  case atStart => exact ⟨0, rfl, by decide, rfl, hs⟩
  case round =>
    clear hs
    obtain ⟨n, rfl, hn, rfl, hs⟩ := hrel
    obtain rfl : n = 0 := by omega
    have hr := h1.out
    have hxb : s.size ≤ 1048576 := by omega
    clear hn
    replace hr := hid (symB_true hr)
    go_upto_region 10 with (first
      | ((with_reducible refine gd_ia ?_); refine wl_of rfl (wp_of_run (ex_indexAddr st58 (i := 0) (by first | exact ev rfl | rfl) (by first | exact ev rfl | rfl) (by decide) _) ?_))
      | ((with_reducible refine gd_ld (ty := 9) ?_); refine wl_of rfl (hs.ld 0 rfl rfl (sc_of rfl) (v := .string s) rfl ?_))
      | ((with_reducible refine gd_cv ?_); refine wl_of rfl (hs.c2b (s := s) (by first | exact ev rfl | rfl) hxb ?_); intro pA pc w hT hs)
      | (go_at_call 24; refine (rread_ok hr.out (by have := hxb; exact this) hT.out).mono ?_; rintro e w ⟨vx, CX, rfl, hslx, hs'⟩; replace hs := hs.plus hs'; clear hs'; simp only [List.cons_append, List.nil_append] at hs; replace hslx := hslx.out))
    replace hs : St w0 [] ([(gs, row 9 [.string s, .string (barS s)])] ++ CX) w := hs
    have htx := hid (fun w H (h : St w0 [] (H ++ ((gs, row 9 [.string s, .string (barS s)]) :: CX)) w) => hslx.tks h (fun p hp => by simp [hp]))
    clear hslx
    go_wp2_with (first
      | ((with_reducible refine gd_bd ?_); refine wl_on rfl (wp_of_run (ex_build rfl (run_build54s _ s)) ?_))
      | ((with_reducible refine gd_bs (n := 1) ?_); refine wl_on rfl (hs.bsn rfl (fun w => bs1_run w ⟨3, s.data.toList, 0⟩) ?_); intro gb w hgb hs)
      | (go_at_call 25; refine (same7 (htx.out w [_] hs) (Tks.lone (hs.at 0 rfl)) (Nat.le_of_ble_eq_true rfl) (Nat.le_of_ble_eq_true rfl)).mono ?_; rintro e w' ⟨rfl, n9, rfl⟩; rw [toksB_self]))
    have hs := hs.drewN n9
    replace hs := hid hs.below
    go_ret
    exact ⟨rfl, hs.out⟩
set_option maxHeartbeats 2000000 in
set_option maxRecDepth 10000 in
theorem symbols_2 {w0 : World} {s : ByteArray} (hsz : s.size ≤ 300) (h1 : symB s s = false) (h2 : symB (barS s) s = true) :
    Calls Try.prog 7 #[.string s] w0 fun e w' => e = .returned (.bool true) ∧ Below w0.heap.size w0 w' := by
  have hs := St.nothing w0
  have q1 : decide ((300 : Int) < (s.size : Int)) = false := by simp; omega
  have h1 := hid h1
  have h2 := hid h2
  have hb2 := hid (barS_size s)
  go_enter Try.func7, Try.ntmps7
  go_wp2_with (first
    | (go_at_call 22; refine (speaks7 _).mono ?_; rintro e w ⟨rfl, hs'⟩; replace hs := hs.plus hs'; clear hs'; simp only [List.append_nil] at hs)
    | (go_at_call 26; refine (symbol_2 (by omega) h1.out h2.out).mono ?_; rintro e w ⟨rfl, hs'⟩; replace hs := hs.plus hs'; clear hs'; simp only [List.append_nil] at hs)
    | ((with_reducible refine gd_bs (n := 2) ?_); refine wl_of rfl (hs.bsn rfl (run_bs2s s (barS s)) ?_); intro gs w hgs hs))
  go_loopg [25] 2 (fun g iv wr => ∃ n : Nat, iv = .int .i64 n ∧ n < 2 ∧ g = 2 - n ∧ St w0 [] [(gs, row 9 [.string s, .string (barS s)])] wr)
  case atStart => exact ⟨0, rfl, by decide, rfl, hs⟩
  case round =>
    clear hs
    obtain ⟨n, rfl, hn, rfl, hs⟩ := hrel
    obtain rfl | rfl : n = 0 ∨ n = 1 := by omega
    · have hr := h1.out
      have hxb : s.size ≤ 1048576 := by omega
      clear hn
      rcases symB_no hr with ⟨k, hr⟩ | ⟨ts, hr, hn⟩
      · replace hr := hid hr
        go_upto_region 10 with (first
          | ((with_reducible refine gd_ia ?_); refine wl_of rfl (wp_of_run (ex_indexAddr st58 (i := 0) (by first | exact ev rfl | rfl) (by first | exact ev rfl | rfl) (by decide) _) ?_))
          | ((with_reducible refine gd_ld (ty := 9) ?_); refine wl_of rfl (hs.ld 0 rfl rfl (sc_of rfl) (v := .string s) rfl ?_))
          | ((with_reducible refine gd_cv ?_); refine wl_of rfl (hs.c2b (s := s) (by first | exact ev rfl | rfl) hxb ?_); intro pA pc w hT hs)
          | (go_at_call 24; refine (rread_bad hr.out (by have := hxb; exact this) hT.out).mono ?_; rintro e w ⟨rfl, hs'⟩; replace hs := hs.plus hs'; clear hs'; simp only [List.append_nil] at hs))
        replace hs := hid hs
        have qk : decide ((k : Int) < 0) = false := by simp
        go_wp2_with fail
        go_roundg (2 - 1)
        case measure => decide
        case rel => exact ⟨1, by first | rfl | go_num, by decide, rfl, hs.out⟩
      · have tsl := readC_len hr
        have hxb3 : s.data.toList.length ≤ 1048576 := hxb
        replace hr := hid hr
        replace hn := hid hn
        go_upto_region 10 with (first
          | ((with_reducible refine gd_ia ?_); refine wl_of rfl (wp_of_run (ex_indexAddr st58 (i := 0) (by first | exact ev rfl | rfl) (by first | exact ev rfl | rfl) (by decide) _) ?_))
          | ((with_reducible refine gd_ld (ty := 9) ?_); refine wl_of rfl (hs.ld 0 rfl rfl (sc_of rfl) (v := .string s) rfl ?_))
          | ((with_reducible refine gd_cv ?_); refine wl_of rfl (hs.c2b (s := s) (by first | exact ev rfl | rfl) hxb ?_); intro pA pc w hT hs)
          | (go_at_call 24; refine (rread_ok hr.out (by have := hxb; exact this) hT.out).mono ?_; rintro e w ⟨vx, CX, rfl, hslx, hs'⟩; replace hs := hs.plus hs'; clear hs'; simp only [List.cons_append, List.nil_append] at hs; replace hslx := hslx.out))
        replace hs : St w0 [] ([(gs, row 9 [.string s, .string (barS s)])] ++ CX) w := hs
        have htx := hid (fun w H (h : St w0 [] (H ++ ((gs, row 9 [.string s, .string (barS s)]) :: CX)) w) => hslx.tks h (fun p hp => by simp [hp]))
        clear hslx
        go_wp2_with (first
          | ((with_reducible refine gd_bd ?_); refine wl_on rfl (wp_of_run (ex_build rfl (run_build54s _ s)) ?_))
          | ((with_reducible refine gd_bs (n := 1) ?_); refine wl_on rfl (hs.bsn rfl (fun w => bs1_run w ⟨3, s.data.toList, 0⟩) ?_); intro gb w hgb hs)
          | (go_at_call 25; refine (same7 (htx.out w [_] hs) (Tks.lone (hs.at 0 rfl)) (by omega) (Nat.le_of_ble_eq_true rfl)).mono ?_; rintro e w' ⟨rfl, n9, rfl⟩; rw [hn.out]))
        have hs := hs.drewN n9
        go_roundg (2 - 1)
        case measure => decide
        case rel => exact ⟨1, by first | rfl | go_num, by decide, rfl, St.keep (A := [_]) (St.drop (A := [_]) hs)⟩
    · have hr := h2.out
      have hxb : (barS s).size ≤ 1048576 := by rw [hb2.out]; omega
      clear hn
      replace hr := hid (symB_true hr)
      go_upto_region 10 with (first
        | ((with_reducible refine gd_ia ?_); refine wl_of rfl (wp_of_run (ex_indexAddr st58 (i := 1) (by first | exact ev rfl | rfl) (by first | exact ev rfl | rfl) (by decide) _) ?_))
        | ((with_reducible refine gd_ld (ty := 9) ?_); refine wl_of rfl (hs.ld 0 rfl rfl (sc_of rfl) (v := .string (barS s)) rfl ?_))
        | ((with_reducible refine gd_cv ?_); refine wl_of rfl (hs.c2b (s := (barS s)) (by first | exact ev rfl | rfl) hxb ?_); intro pA pc w hT hs)
        | (go_at_call 24; refine (rread_ok hr.out (by have := hxb; exact this) hT.out).mono ?_; rintro e w ⟨vx, CX, rfl, hslx, hs'⟩; replace hs := hs.plus hs'; clear hs'; simp only [List.cons_append, List.nil_append] at hs; replace hslx := hslx.out))
      replace hs : St w0 [] ([(gs, row 9 [.string s, .string (barS s)])] ++ CX) w := hs
      have htx := hid (fun w H (h : St w0 [] (H ++ ((gs, row 9 [.string s, .string (barS s)]) :: CX)) w) => hslx.tks h (fun p hp => by simp [hp]))
      clear hslx
      go_wp2_with (first
        | ((with_reducible refine gd_bd ?_); refine wl_on rfl (wp_of_run (ex_build rfl (run_build54s _ s)) ?_))
        | ((with_reducible refine gd_bs (n := 1) ?_); refine wl_on rfl (hs.bsn rfl (fun w => bs1_run w ⟨3, s.data.toList, 0⟩) ?_); intro gb w hgb hs)
        | (go_at_call 25; refine (same7 (htx.out w [_] hs) (Tks.lone (hs.at 0 rfl)) (Nat.le_of_ble_eq_true rfl) (Nat.le_of_ble_eq_true rfl)).mono ?_; rintro e w' ⟨rfl, n9, rfl⟩; rw [toksB_self]))
      have hs := hs.drewN n9
      replace hs := hid hs.below
      go_ret
      exact ⟨rfl, hs.out⟩
set_option maxHeartbeats 2000000 in
set_option maxRecDepth 10000 in
theorem symbols_0 {w0 : World} {s : ByteArray} (hsz : s.size ≤ 300) (h1 : symB s s = false) (h2 : symB (barS s) s = false) :
    Calls Try.prog 7 #[.string s] w0 fun e w' => e = .returned (.bool true) ∧ Below w0.heap.size w0 w' := by
  have hs := St.nothing w0
  have q1 : decide ((300 : Int) < (s.size : Int)) = false := by simp; omega
  have h1 := hid h1
  have h2 := hid h2
  have hb2 := hid (barS_size s)
  go_enter Try.func7, Try.ntmps7
  go_wp2_with (first
    | (go_at_call 22; refine (speaks7 _).mono ?_; rintro e w ⟨rfl, hs'⟩; replace hs := hs.plus hs'; clear hs'; simp only [List.append_nil] at hs)
    | (go_at_call 26; refine (symbol_0 (by omega) h1.out h2.out).mono ?_; rintro e w ⟨rfl, hs'⟩; replace hs := hs.plus hs'; clear hs'; simp only [List.append_nil] at hs)
    | ((with_reducible refine gd_bs (n := 2) ?_); refine wl_of rfl (hs.bsn rfl (run_bs2s s (barS s)) ?_); intro gs w hgs hs))
  go_loopg [25] 3 (fun g iv wr => ∃ n : Nat, iv = .int .i64 n ∧ n < 3 ∧ g = 3 - n ∧ St w0 [] [(gs, row 9 [.string s, .string (barS s)])] wr)
  case atStart => exact ⟨0, rfl, by decide, rfl, hs⟩
  case round =>
    clear hs
    obtain ⟨n, rfl, hn, rfl, hs⟩ := hrel
    obtain rfl | rfl | rfl : n = 0 ∨ n = 1 ∨ n = 2 := by omega
    · have hr := h1.out
      have hxb : s.size ≤ 1048576 := by omega
      clear hn
      rcases symB_no hr with ⟨k, hr⟩ | ⟨ts, hr, hn⟩
      · replace hr := hid hr
        go_upto_region 10 with (first
          | ((with_reducible refine gd_ia ?_); refine wl_of rfl (wp_of_run (ex_indexAddr st58 (i := 0) (by first | exact ev rfl | rfl) (by first | exact ev rfl | rfl) (by decide) _) ?_))
          | ((with_reducible refine gd_ld (ty := 9) ?_); refine wl_of rfl (hs.ld 0 rfl rfl (sc_of rfl) (v := .string s) rfl ?_))
          | ((with_reducible refine gd_cv ?_); refine wl_of rfl (hs.c2b (s := s) (by first | exact ev rfl | rfl) hxb ?_); intro pA pc w hT hs)
          | (go_at_call 24; refine (rread_bad hr.out (by have := hxb; exact this) hT.out).mono ?_; rintro e w ⟨rfl, hs'⟩; replace hs := hs.plus hs'; clear hs'; simp only [List.append_nil] at hs))
        replace hs := hid hs
        have qk : decide ((k : Int) < 0) = false := by simp
        go_wp2_with fail
        go_roundg (3 - 1)
        case measure => decide
        case rel => exact ⟨1, by first | rfl | go_num, by decide, rfl, hs.out⟩
      · have tsl := readC_len hr
        have hxb3 : s.data.toList.length ≤ 1048576 := hxb
        replace hr := hid hr
        replace hn := hid hn
        go_upto_region 10 with (first
          | ((with_reducible refine gd_ia ?_); refine wl_of rfl (wp_of_run (ex_indexAddr st58 (i := 0) (by first | exact ev rfl | rfl) (by first | exact ev rfl | rfl) (by decide) _) ?_))
          | ((with_reducible refine gd_ld (ty := 9) ?_); refine wl_of rfl (hs.ld 0 rfl rfl (sc_of rfl) (v := .string s) rfl ?_))
          | ((with_reducible refine gd_cv ?_); refine wl_of rfl (hs.c2b (s := s) (by first | exact ev rfl | rfl) hxb ?_); intro pA pc w hT hs)
          | (go_at_call 24; refine (rread_ok hr.out (by have := hxb; exact this) hT.out).mono ?_; rintro e w ⟨vx, CX, rfl, hslx, hs'⟩; replace hs := hs.plus hs'; clear hs'; simp only [List.cons_append, List.nil_append] at hs; replace hslx := hslx.out))
        replace hs : St w0 [] ([(gs, row 9 [.string s, .string (barS s)])] ++ CX) w := hs
        have htx := hid (fun w H (h : St w0 [] (H ++ ((gs, row 9 [.string s, .string (barS s)]) :: CX)) w) => hslx.tks h (fun p hp => by simp [hp]))
        clear hslx
        go_wp2_with (first
          | ((with_reducible refine gd_bd ?_); refine wl_on rfl (wp_of_run (ex_build rfl (run_build54s _ s)) ?_))
          | ((with_reducible refine gd_bs (n := 1) ?_); refine wl_on rfl (hs.bsn rfl (fun w => bs1_run w ⟨3, s.data.toList, 0⟩) ?_); intro gb w hgb hs)
          | (go_at_call 25; refine (same7 (htx.out w [_] hs) (Tks.lone (hs.at 0 rfl)) (by omega) (Nat.le_of_ble_eq_true rfl)).mono ?_; rintro e w' ⟨rfl, n9, rfl⟩; rw [hn.out]))
        have hs := hs.drewN n9
        go_roundg (3 - 1)
        case measure => decide
        case rel => exact ⟨1, by first | rfl | go_num, by decide, rfl, St.keep (A := [_]) (St.drop (A := [_]) hs)⟩
    · have hr := h2.out
      have hxb : (barS s).size ≤ 1048576 := by rw [hb2.out]; omega
      clear hn
      rcases symB_no hr with ⟨k, hr⟩ | ⟨ts, hr, hn⟩
      · replace hr := hid hr
        go_upto_region 10 with (first
          | ((with_reducible refine gd_ia ?_); refine wl_of rfl (wp_of_run (ex_indexAddr st58 (i := 1) (by first | exact ev rfl | rfl) (by first | exact ev rfl | rfl) (by decide) _) ?_))
          | ((with_reducible refine gd_ld (ty := 9) ?_); refine wl_of rfl (hs.ld 0 rfl rfl (sc_of rfl) (v := .string (barS s)) rfl ?_))
          | ((with_reducible refine gd_cv ?_); refine wl_of rfl (hs.c2b (s := (barS s)) (by first | exact ev rfl | rfl) hxb ?_); intro pA pc w hT hs)
          | (go_at_call 24; refine (rread_bad hr.out (by have := hxb; exact this) hT.out).mono ?_; rintro e w ⟨rfl, hs'⟩; replace hs := hs.plus hs'; clear hs'; simp only [List.append_nil] at hs))
        replace hs := hid hs
        have qk : decide ((k : Int) < 0) = false := by simp
        go_wp2_with fail
        go_roundg (3 - 2)
        case measure => decide
        case rel => exact ⟨2, by first | rfl | go_num, by decide, rfl, hs.out⟩
      · have tsl := readC_len hr
        have hxb3 : (barS s).data.toList.length ≤ 1048576 := hxb
        replace hr := hid hr
        replace hn := hid hn
        go_upto_region 10 with (first
          | ((with_reducible refine gd_ia ?_); refine wl_of rfl (wp_of_run (ex_indexAddr st58 (i := 1) (by first | exact ev rfl | rfl) (by first | exact ev rfl | rfl) (by decide) _) ?_))
          | ((with_reducible refine gd_ld (ty := 9) ?_); refine wl_of rfl (hs.ld 0 rfl rfl (sc_of rfl) (v := .string (barS s)) rfl ?_))
          | ((with_reducible refine gd_cv ?_); refine wl_of rfl (hs.c2b (s := (barS s)) (by first | exact ev rfl | rfl) hxb ?_); intro pA pc w hT hs)
          | (go_at_call 24; refine (rread_ok hr.out (by have := hxb; exact this) hT.out).mono ?_; rintro e w ⟨vx, CX, rfl, hslx, hs'⟩; replace hs := hs.plus hs'; clear hs'; simp only [List.cons_append, List.nil_append] at hs; replace hslx := hslx.out))
        replace hs : St w0 [] ([(gs, row 9 [.string s, .string (barS s)])] ++ CX) w := hs
        have htx := hid (fun w H (h : St w0 [] (H ++ ((gs, row 9 [.string s, .string (barS s)]) :: CX)) w) => hslx.tks h (fun p hp => by simp [hp]))
        clear hslx
        go_wp2_with (first
          | ((with_reducible refine gd_bd ?_); refine wl_on rfl (wp_of_run (ex_build rfl (run_build54s _ s)) ?_))
          | ((with_reducible refine gd_bs (n := 1) ?_); refine wl_on rfl (hs.bsn rfl (fun w => bs1_run w ⟨3, s.data.toList, 0⟩) ?_); intro gb w hgb hs)
          | (go_at_call 25; refine (same7 (htx.out w [_] hs) (Tks.lone (hs.at 0 rfl)) (by omega) (Nat.le_of_ble_eq_true rfl)).mono ?_; rintro e w' ⟨rfl, n9, rfl⟩; rw [hn.out]))
        have hs := hs.drewN n9
        go_roundg (3 - 2)
        case measure => decide
        case rel => exact ⟨2, by first | rfl | go_num, by decide, rfl, St.keep (A := [_]) (St.drop (A := [_]) hs)⟩
    · replace hs := hid hs.below
      clear hn
      go_wp2_with fail
      go_ret
      exact ⟨rfl, hs.out⟩
set_option maxHeartbeats 1000000 in
set_option maxRecDepth 4000 in
theorem symbols_long {w0 : World} {s : ByteArray} (h : 300 < s.size) :
    Calls Try.prog 7 #[.string s] w0 fun e w' => e = .returned (.bool true) ∧ Below w0.heap.size w0 w' := by
  have q1 : decide ((300 : Int) < (s.size : Int)) = true := by simp; omega
  clear h
  go_enter Try.func7, Try.ntmps7
  go_wp2_with (go_at_call 22; refine (speaks7 _).mono ?_; rintro e w ⟨rfl, hs⟩)
  go_ret
  exact ⟨rfl, hs.below⟩
theorem symbols_any {w0 : World} (s : ByteArray) : Calls Try.prog 7 #[.string s] w0 fun e w' => e = .returned (.bool true) ∧ Below w0.heap.size w0 w' := by
  by_cases h : 300 < s.size
  · exact symbols_long h
  · cases h1 : symB s s with
    | true => exact symbols_1 (by omega) h1
    | false =>
      cases h2 : symB (barS s) s with
      | true => exact symbols_2 (by omega) h1 h2
      | false => exact symbols_0 (by omega) h1 h2
end Go.Proofs.Ytclingkhdmhhoaa

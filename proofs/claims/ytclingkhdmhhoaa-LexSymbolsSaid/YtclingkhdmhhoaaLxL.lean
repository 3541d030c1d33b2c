/- The walk of the law LexReads. No condition. -/
import Derived.Test.YtclingkhdmhhoaaRfG
import Derived.Test.YtclingkhdmhhoaaLxV
import Derived.Deep.Cut
namespace Go.Proofs.Ytclingkhdmhhoaa
open Go.RowKit
set_option linter.unusedSimpArgs false
set_option linter.unusedVariables false

theorem rread_ok {w0 : World} {v : Value} {l : List UInt8} {ts : List Tok} (hr : readC l 0 = .ok ts) (hl : l.length ≤ 1048576) (hT : Txt w0 [] v l) :
    Calls Try.prog 24 #[v] w0 fun e w' => ∃ ov CO, e = .returned (.tuple #[ov, .int .i64 (-1)]) ∧ Hid (Sl 54 3 ov ts.length (tcells ts) CO) ∧ St w0 [] CO w' := by
  have := rread_c hT hl
  rw [hr] at this
  exact this
theorem rread_bad {w0 : World} {v : Value} {l : List UInt8} {k : Nat} (hr : readC l 0 = .error k) (hl : l.length ≤ 1048576) (hT : Txt w0 [] v l) :
    Calls Try.prog 24 #[v] w0 fun e w' => e = .returned (.tuple #[.slice none 0 0, .int .i64 k]) ∧ St w0 [] [] w' := by
  have := rread_c hT hl
  rw [hr] at this
  exact this
set_option maxHeartbeats 2000000 in
set_option maxRecDepth 4000 in
theorem reads_ok {w0 : World} {vb : Value} {B : List UInt8} (hb : Txt w0 [] vb B) (hB : B.length ≤ 5000) {ts : List Tok} (hx : readC B 0 = .ok ts) :
    Calls Try.prog 5 #[vb] w0 fun e w' => e = .returned (.bool true) ∧ Below w0.heap.size w0 w' := by
  have hs := St.nothing w0
  have q1 : decide ((5000 : Int) < (B.length : Int)) = false := by simp; omega
  obtain ⟨pb, cb, rfl⟩ := hb.bd
  have htl := readC_len hx
  replace hb := hid hb
  replace hx := hid hx
  go_enter Try.func5, Try.ntmps5
  go_upto_region 6 with (first
    | (go_at_call 22; refine (speaks7 _).mono ?_; rintro e w ⟨rfl, hs'⟩; replace hs := hs.plus hs'; clear hs'; simp only [List.append_nil] at hs)
    | ((with_reducible refine gd_bs (n := 0) ?_); refine wl_of rfl (hs.bs0 el43 ?_); intro g0 w hg0 hs hsl0; replace hsl0 := hid hsl0)
    | ((with_reducible refine gd_ap ?_); refine wl_of rfl (St.appT [] [] (C := [(g0, row 5 [])]) (l := []) (by simpa using hs) hsl0.out (hb.out.now hs) (by first | exact ev rfl | rfl) (by first | exact ev rfl | rfl) (by simp only [List.length_nil]; omega) ?_); intro v1 C1 w hs hsl1; rw [List.nil_append] at hsl1; have hb1 := hid (Mid.txt (.inl hsl1) hs (fun p hp => by simpa using hp)); replace hs := hs.void; clear hsl1)
    | (go_at_call 23; refine (read_ok hx.out (by omega) hb1.out).mono ?_; rintro e w ⟨vx, CX, rfl, hslx, hs'⟩; replace hs := hs.plus hs'; clear hs'; simp only [List.nil_append] at hs)
    | ((with_reducible refine gd_al ?_); refine wl_of rfl (hs.al (zc_of rfl) ?_); intro b8 w hb8 hs)
    | ((with_reducible refine gd_st (ty := 46) ?_); refine wl_of rfl (hs.sta 0 rfl rfl ag46 (vs := [.int .i64 0, .int .i64 0]) (by first | exact ev rfl | rfl) rfl (by simp [Value.oneCell']) (Nat.le_of_eq rfl) (splice_all rfl) ?_); intro w hs; rw [put_none]; simp only [List.set_cons_zero] at hs))
  go_upto_region 9 with (first
    | (go_at_call 24; refine (rread_ok hx.out (by omega) (hb.out.now hs)).mono ?_; rintro e w ⟨vy, CY, rfl, hsly, hs'⟩; replace hs := hs.plus hs'; clear hs'; simp only [List.cons_append] at hs))
  have f1 : w.cell? ⟨b8, 0, none⟩ = some (.int .i64 0) := row_cell (hs.at 0 rfl) 0
  have f2 : w.cell? ⟨b8, 1, none⟩ = some (.int .i64 0) := row_cell (hs.at 0 rfl) 1
  have tX := hslx.out.tks hs (fun p hp => by simp [hp])
  have tY := hsly.out.tks hs (fun p hp => by simp [hp])
  have sm := same7 tX tY (by omega) (by omega)
  rw [toksB_self] at sm
  clear tX tY
  replace sm := hid sm
  replace hs := hid hs.below
  go_wp2_with (go_at_call 25; refine sm.out.mono ?_; rintro e w' ⟨rfl, n9, rfl⟩)
  go_ret
  exact ⟨rfl, hs.out.trans ⟨rfl, rfl, rfl, Nat.le_refl _, fun _ _ => rfl⟩⟩
set_option maxHeartbeats 2000000 in
set_option maxRecDepth 4000 in
theorem reads_bad {w0 : World} {vb : Value} {B : List UInt8} (hb : Txt w0 [] vb B) (hB : B.length ≤ 5000) {k : Nat} (hx : readC B 0 = .error k) :
    Calls Try.prog 5 #[vb] w0 fun e w' => e = .returned (.bool true) ∧ Below w0.heap.size w0 w' := by
  have hs := St.nothing w0
  have q1 : decide ((5000 : Int) < (B.length : Int)) = false := by simp; omega
  obtain ⟨pb, cb, rfl⟩ := hb.bd
  replace hb := hid hb
  replace hx := hid hx
  go_enter Try.func5, Try.ntmps5
  go_upto_region 6 with (first
    | (go_at_call 22; refine (speaks7 _).mono ?_; rintro e w ⟨rfl, hs'⟩; replace hs := hs.plus hs'; clear hs'; simp only [List.append_nil] at hs)
    | ((with_reducible refine gd_bs (n := 0) ?_); refine wl_of rfl (hs.bs0 el43 ?_); intro g0 w hg0 hs hsl0; replace hsl0 := hid hsl0)
    | ((with_reducible refine gd_ap ?_); refine wl_of rfl (St.appT [] [] (C := [(g0, row 5 [])]) (l := []) (by simpa using hs) hsl0.out (hb.out.now hs) (by first | exact ev rfl | rfl) (by first | exact ev rfl | rfl) (by simp only [List.length_nil]; omega) ?_); intro v1 C1 w hs hsl1; rw [List.nil_append] at hsl1; have hb1 := hid (Mid.txt (.inl hsl1) hs (fun p hp => by simpa using hp)); replace hs := hs.void; clear hsl1)
    | (go_at_call 23; refine (read_bad hx.out (by omega) hb1.out).mono ?_; rintro e w ⟨rfl, hs'⟩; replace hs := hs.plus hs'; clear hs'; simp only [List.nil_append] at hs)
    | ((with_reducible refine gd_al ?_); refine wl_of rfl (hs.al (zc_of rfl) ?_); intro b8 w hb8 hs)
    | ((with_reducible refine gd_st (ty := 46) ?_); refine wl_of rfl (hs.sta 0 rfl rfl ag46 (vs := [.int .i64 10, .int .i64 k]) (by first | exact ev rfl | rfl) rfl (by simp [Value.oneCell']) (Nat.le_of_eq rfl) (splice_all rfl) ?_); intro w hs; rw [put_none]; simp only [List.set_cons_zero] at hs))
  go_upto_region 7 with (first
    | (go_at_call 24; refine (rread_bad hx.out (by omega) (hb.out.now hs)).mono ?_; rintro e w ⟨rfl, hs'⟩; replace hs := hs.plus hs'; clear hs'; simp only [List.append_nil] at hs))
  have f1 : w.cell? ⟨b8, 0, none⟩ = some (.int .i64 10) := row_cell (hs.at 0 rfl) 0
  have f2 : w.cell? ⟨b8, 1, none⟩ = some (.int .i64 k) := row_cell (hs.at 0 rfl) 1
  replace hs := hid hs.below
  go_wp2_with fail
  go_ret
  exact ⟨rfl, hs.out⟩
set_option maxHeartbeats 1000000 in
set_option maxRecDepth 4000 in
theorem reads_long {w0 : World} {pa : Option Addr} {la ca : Nat} (h : 5000 < la) :
    Calls Try.prog 5 #[.slice pa la ca] w0 fun e w' => e = .returned (.bool true) ∧ Below w0.heap.size w0 w' := by
  have q1 : decide ((5000 : Int) < (la : Int)) = true := by simp; omega
  clear h
  go_enter Try.func5, Try.ntmps5
  go_wp2_with (go_at_call 22; refine (speaks7 _).mono ?_; rintro e w ⟨rfl, hs⟩)
  go_ret
  exact ⟨rfl, hs.below⟩
theorem reads_any {w0 : World} {vb : Value} {B : List UInt8} (hb : Txt w0 [] vb B) :
    Calls Try.prog 5 #[vb] w0 fun e w' => e = .returned (.bool true) ∧ Below w0.heap.size w0 w' := by
  by_cases h : 5000 < B.length
  · obtain ⟨pb, cb, rfl⟩ := hb.bd
    exact reads_long h
  · cases hx : readC B 0 with
    | error k => exact reads_bad hb (by omega) hx
    | ok ts => exact reads_ok hb (by omega) hx
end Go.Proofs.Ytclingkhdmhhoaa

/- Chapter 8: the walk of the law SexpReads. No condition. -/
import Derived.Test.YtclingkhdmhhoaaSxF
import Derived.Test.YtclingkhdmhhoaaSxH
namespace Go.Proofs.Ytclingkhdmhhoaa
open Go.RowKit
set_option linter.unusedSimpArgs false
set_option linter.unusedVariables false

theorem Tks.bd {w : World} {v : Value} {ts : List Tok} (h : Tks w v ts) : ∃ A c, v = .slice A ts.length c := by
  obtain ⟨A, c, h, _⟩ := h; exact ⟨A, c, h⟩
theorem rread8_ok {w0 : World} {tv : Value} {ts : List Tok} {ks : List Tr} (hr : readS ts = .ok ks) (hT : Tks w0 tv ts) (hl : ts.length ≤ 8192) :
    Calls Try.prog 33 #[tv] w0 fun e w' => ∃ v F, e = .returned (.tuple #[v, .int .i64 0, .int .i64 0]) ∧ Hid (RowR F v ks) ∧ St w0 [] F w' := by
  have := rread8_any hT hl
  rw [← read_same, hr] at this
  exact this
theorem rread8_bad {w0 : World} {tv : Value} {ts : List Tok} {x : Int × Int} (hr : readS ts = .error x) (hT : Tks w0 tv ts) (hl : ts.length ≤ 8192) :
    Calls Try.prog 33 #[tv] w0 fun e w' => e = .returned (.tuple #[.slice none 0 0, .int .i64 x.1, .int .i64 x.2]) ∧ St w0 [] [] w' := by
  have := rread8_any hT hl
  rw [← read_same, hr] at this
  exact this
theorem readS_code {ts : List Tok} {x : Int × Int} (h : readS ts = .error x) : x.1 ≠ 0 := by
  rw [read_same] at h
  unfold readR at h
  have hc := rl_code (ts.length + 1) 0 [] ts
  cases hr : rl (ts.length + 1) 0 [] ts with
  | error e => rw [hr] at h hc; cases h; exact hc _ rfl
  | ok y =>
    obtain ⟨o, l⟩ := y
    rw [hr] at h
    cases l with
    | nil => cases h
    | cons c r => cases h; simp

set_option maxHeartbeats 2000000 in
set_option maxRecDepth 4000 in
theorem sreads_ok {w0 : World} {v : Value} {ts : List Tok} {ks : List Tr} (hT : Tks w0 v ts) (hl : ts.length ≤ 4000) (hr : readS ts = .ok ks) :
    Calls Try.prog 9 #[v] w0 fun e w' => e = .returned (.bool true) ∧ Below w0.heap.size w0 w' := by
  have hs := St.nothing w0
  obtain ⟨A, c, rfl⟩ := hT.bd
  have q1 : decide ((4000 : Int) < (ts.length : Int)) = false := by simp; omega
  have hfew := readS_few hr
  have hl2 : ts.length ≤ 8192 := by omega
  replace hT := hid hT
  replace hr := hid hr
  replace hfew := hid hfew
  go_enter Try.func9, Try.ntmps9
  go_upto_region 6 with (first
    | (go_at_call 31; refine (speaks8 _).mono ?_; rintro e w ⟨rfl, hs'⟩; replace hs := hs.plus hs'; clear hs'; simp only [List.append_nil] at hs)
    | (go_at_call 32; refine (sread_ok hr.out (hT.out.via hs) hl2).mono ?_; rintro e w ⟨xv, F, rfl, hxr, hs'⟩; replace hxr := hid hxr; replace hs := hs.plus hs'; clear hs'; simp only [List.nil_append] at hs)
    | ((with_reducible refine gd_al ?_); refine wl_of rfl (hs.al (zc_of rfl) ?_); intro b4 w hb4 hs)
    | ((with_reducible refine gd_st (ty := 46) ?_); refine wl_of rfl (hs.sta 0 rfl rfl ag46 (vs := [.int .i64 0, .int .i64 0]) (by first | exact ev rfl | rfl) rfl (by simp [Value.oneCell']) (Nat.le_of_eq rfl) (splice_all rfl) ?_); intro w hs; rw [put_none]; simp only [List.set_cons_zero] at hs))
  go_upto_region 9 with (first
    | (go_at_call 33; refine (rread8_ok hr.out (hT.out.via hs) hl2).mono ?_; rintro e w ⟨yv, G, rfl, hyr, hs'⟩; replace hs := hs.plus hs'; clear hs'; simp only [List.cons_append] at hs))
  have f1 : w.cell? ⟨b4, 0, none⟩ = some (.int .i64 0) := row_cell (hs.at 0 rfl) 0
  have f2 : w.cell? ⟨b4, 1, none⟩ = some (.int .i64 0) := row_cell (hs.at 0 rfl) 1
  have hKF : Kn w F := hs.kn (fun p hp => by simp [hp])
  have hKG : Kn w G := hs.kn (fun p hp => by simp [hp])
  have hsm := same8 hl2 hfew.out.1 hfew.out.2 hxr.out hyr.out hKF hKG
  replace hsm := hid hsm
  clear hKF hKG
  replace hs := hid hs
  go_wp2_with (go_at_call 34; refine hsm.out.mono ?_; rintro e w' ⟨rfl, hs'⟩; replace hs := hs.out.plus hs'; clear hs'; replace hs := hid hs)
  go_ret
  exact ⟨rfl, hs.out.void.below⟩
set_option maxHeartbeats 2000000 in
set_option maxRecDepth 4000 in
theorem sreads_bad {w0 : World} {v : Value} {ts : List Tok} {x : Int × Int} (hT : Tks w0 v ts) (hl : ts.length ≤ 4000) (hr : readS ts = .error x) :
    Calls Try.prog 9 #[v] w0 fun e w' => e = .returned (.bool true) ∧ Below w0.heap.size w0 w' := by
  have hs := St.nothing w0
  obtain ⟨A, c, rfl⟩ := hT.bd
  have q1 : decide ((4000 : Int) < (ts.length : Int)) = false := by simp; omega
  have hl2 : ts.length ≤ 8192 := by omega
  have qx : (x.1 != (0 : Int)) = true := by have := readS_code hr; simp [this]
  replace hT := hid hT
  replace hr := hid hr
  go_enter Try.func9, Try.ntmps9
  go_upto_region 6 with (first
    | (go_at_call 31; refine (speaks8 _).mono ?_; rintro e w ⟨rfl, hs'⟩; replace hs := hs.plus hs'; clear hs'; simp only [List.append_nil] at hs)
    | (go_at_call 32; refine (sread_bad hr.out (hT.out.via hs) hl2).mono ?_; rintro e w ⟨rfl, hs'⟩; replace hs := hs.plus hs'; clear hs'; simp only [List.nil_append] at hs)
    | ((with_reducible refine gd_al ?_); refine wl_of rfl (hs.al (zc_of rfl) ?_); intro b4 w hb4 hs)
    | ((with_reducible refine gd_st (ty := 46) ?_); refine wl_of rfl (hs.sta 0 rfl rfl ag46 (vs := [.int .i64 x.1, .int .i64 x.2]) (by first | exact ev rfl | rfl) rfl (by simp [Value.oneCell']) (Nat.le_of_eq rfl) (splice_all rfl) ?_); intro w hs; rw [put_none]; simp only [List.set_cons_zero] at hs))
  go_upto_region 8 with (first
    | (go_at_call 33; refine (rread8_bad hr.out (hT.out.via hs) hl2).mono ?_; rintro e w ⟨rfl, hs'⟩; replace hs := hs.plus hs'; clear hs'; simp only [List.append_nil] at hs))
  have f1 : w.cell? ⟨b4, 0, none⟩ = some (.int .i64 x.1) := row_cell (hs.at 0 rfl) 0
  have f2 : w.cell? ⟨b4, 1, none⟩ = some (.int .i64 x.2) := row_cell (hs.at 0 rfl) 1
  replace hs := hid hs
  go_wp2_with fail
  go_ret
  exact ⟨rfl, hs.out.void.below⟩
set_option maxHeartbeats 1000000 in
set_option maxRecDepth 4000 in
theorem sreads_long {w0 : World} {pa : Option Addr} {la ca : Nat} (h : 4000 < la) :
    Calls Try.prog 9 #[.slice pa la ca] w0 fun e w' => e = .returned (.bool true) ∧ Below w0.heap.size w0 w' := by
  have q1 : decide ((4000 : Int) < (la : Int)) = true := by simp; omega
  clear h
  go_enter Try.func9, Try.ntmps9
  go_wp2_with (go_at_call 31; refine (speaks8 _).mono ?_; rintro e w ⟨rfl, hs⟩)
  go_ret
  exact ⟨rfl, hs.below⟩
theorem sreads_any {w0 : World} {v : Value} {ts : List Tok} (hT : Tks w0 v ts) :
    Calls Try.prog 9 #[v] w0 fun e w' => e = .returned (.bool true) ∧ Below w0.heap.size w0 w' := by
  by_cases h : 4000 < ts.length
  · obtain ⟨A, c, rfl⟩ := hT.bd
    exact sreads_long h
  · cases hr : readS ts with
    | error x => exact sreads_bad hT (by omega) hr
    | ok ks => exact sreads_ok hT (by omega) hr
end Go.Proofs.Ytclingkhdmhhoaa

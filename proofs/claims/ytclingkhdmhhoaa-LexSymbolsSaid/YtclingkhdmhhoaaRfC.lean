/- The walk of the reference's Token: symbols, and symbols between bars. No condition. -/
import Derived.Test.YtclingkhdmhhoaaRfB
namespace Go.Proofs.Ytclingkhdmhhoaa
open Go.RowKit
set_option linter.unusedSimpArgs false
set_option linter.unusedVariables false

set_option maxHeartbeats 4000000 in
set_option maxRecDepth 100000 in
theorem rtok_sym {w0 : World} {v : Value} {l : List UInt8} {p : Nat} {x : UInt8} (hT : Txt w0 [] v l) (hl : l.length ≤ 1048576) (hx : l[p]? = some x) (h1 : innerI x.toNat = true) (h2 : digitI x.toNat = false) (h40 : (x.toNat : Int) ≠ 40) (h41 : (x.toNat : Int) ≠ 41) (h124 : (x.toNat : Int) ≠ 124) (h34 : (x.toNat : Int) ≠ 34) (h58 : (x.toNat : Int) ≠ 58) {z : Nat} (hz : p + 1 + spanN innerI (l.drop (p + 1)) = z) :
    Calls Try.prog 48 #[v, .int .i64 p] w0 (RTok w0 p (.ok (3, (l.drop p).take (z - p), z - p))) := by
  have hs := St.nothing w0
  obtain ⟨A, c, rfl⟩ := hT.bd
  have hlt : p < l.length := (List.getElem?_eq_some_iff.1 hx).1
  obtain ⟨b, o, rfl, hby⟩ := byte_all hT hx
  have hri := rinner_any x
  have hrd := rdigit_any x.toNat
  rw [h1] at hri
  rw [h2] at hrd
  have hzp : p + 1 ≤ z := by omega
  have hzl : z ≤ l.length := by rw [← hz]; exact span_at_le innerI (by omega)
  replace hz := hid hz
  have q40 : ((x.toNat : Int) == 40) = false := by simpa using h40
  have q41 : ((x.toNat : Int) == 41) = false := by simpa using h41
  have q124 : ((x.toNat : Int) == 124) = false := by simpa using h124
  have q34 : ((x.toNat : Int) == 34) = false := by simpa using h34
  have q58 : ((x.toNat : Int) == 58) = false := by simpa using h58
  replace hri := hid hri
  replace hrd := hid hrd
  replace hby := hid hby
  replace hT := hid hT
  replace hx := hid hx
  clear h40 h41 h124 h34 h58
  clear h1 h2
  go_enter Try.func48, Try.ntmps48
  go_upto_region 1 with (first
    | ((with_reducible refine gd_al ?_); refine wl_of rfl (hs.al zc54 ?_); intro rb w hrb hs))
  have hc := hby.out _ _ hs
  go_upto_region 4 with (first
    | ((with_reducible refine gd_bd ?_); refine wl_of rfl (wp_of_run (ex_build rfl (run_build54p _ _)) ?_))
    | ((with_reducible refine gd_al ?_); refine wl_of rfl (hs.al zc54 ?_); intro tb w htb hs)
    | ((with_reducible refine gd_st (ty := 54) ?_); refine wl_of rfl (hs.sta 0 rfl rfl ag54 (vs := Tok.cells ⟨0, [], p⟩) (by first | exact ev rfl | rfl) rfl (tok_one _) (Nat.le_of_eq rfl) (splice_all rfl) ?_); intro w hs; rw [put_none]; simp only [List.set_cons_zero] at hs))
  replace hs : St w0 [] [(tb, row 54 (Tok.cells ⟨0, [], p⟩)), (rb, row 54 (Tok.cells ⟨0, [], 0⟩))] w := hs
  clear hc
  go_wp2_with (first
    | (go_at_call 76; refine (hri.out _).mono ?_; rintro e w' ⟨rfl, rfl⟩)
    | (go_at_call 77; refine (hrd.out _).mono ?_; rintro e w' ⟨rfl, rfl⟩))
  go_loopg [9] (l.length - (p + 1)) (fun g iv wr => ∃ m : Nat, iv = .int .i64 m ∧ p + 1 ≤ m ∧ m ≤ z ∧ g = l.length - m ∧ Hid (m + spanN innerI (l.drop m) = z) ∧ St w0 [] [(tb, row 54 (Tok.cells ⟨0, [], p⟩)), (rb, row 54 (Tok.cells ⟨0, [], 0⟩))] wr)
  case atStart => exact ⟨p + 1, by first | rfl | go_num, Nat.le_refl _, hzp, rfl, hz, hs⟩
  case round =>
    clear hs
    obtain ⟨m, rfl, hm1, hm2, rfl, hmz, hs⟩ := hrel
    by_cases hmlt : m < l.length
    · obtain ⟨y, hy⟩ : ∃ y, l[m]? = some y := ⟨_, List.getElem?_eq_getElem hmlt⟩
      obtain ⟨b2, o2, hbo, hc⟩ := byte_at hT.out hs hy
      cases hbo
      have hdr := skip_cons hy
      have hsq := hid hs
      clear hs
      cases hP : innerI y.toNat with
      | true =>
        have hmz2 : m + 1 + spanN innerI (l.drop (m + 1)) = z := by
          have := hmz.out
          rw [hdr] at this
          simp only [spanN, hP, if_true] at this
          omega
        have hmz3 : m + 1 ≤ z := by omega
        replace hmz2 := hid hmz2
        replace hy := hid hy
        replace hdr := hid hdr
        have hcl := rinner_any y
        rw [hP] at hcl
        replace hcl := hid hcl
        replace hP := hid hP
        go_wp2_with (first
          | (go_at_call 76; refine ((hcl).out _).mono ?_; rintro e w' ⟨rfl, rfl⟩))
        go_roundg (l.length - (m + 1))
        case measure => omega
        case rel => exact ⟨m + 1, by first | rfl | go_num, by omega, hmz3, rfl, hmz2, hsq.out⟩
      | false =>
        obtain rfl : z = m := by
          have := hmz.out
          rw [hdr] at this
          simp only [spanN, hP] at this
          simpa using this.symm
        have q1 : decide (z < l.length) = true := by simpa using hmlt
        have q1e : ((z : Int) == (l.length : Int)) = false := by rw [beq_eq_false_iff_ne]; omega
        replace hdr := hid hdr
        have hcl := rinner_any y
        rw [hP] at hcl
        replace hcl := hid hcl
        replace hP := hid hP
        replace hy := hid hy
        have hs := hsq.out
        go_wp2_with (first
          | (go_at_call 76; refine ((hcl).out _).mono ?_; rintro e w' ⟨rfl, rfl⟩)
          | ((with_reducible refine gd_st (ty := 3) ?_); refine wl_of rfl (hs.st0 0 rfl rfl (sc_of rfl) (v := .int .i64 3) rfl (by rfl) (Nat.le_of_ble_eq_true rfl) ?_); intro w hs; replace hs : St w0 [] [(tb, row 54 (Tok.cells ⟨3, [], p⟩)), (rb, row 54 (Tok.cells ⟨0, [], 0⟩))] w := hs)
          | ((with_reducible refine gd_sl ?_); obtain ⟨sv', hv1, hv2⟩ := run_txt_slice (hT.out.now hs) (lo := p) (hi := z) (by omega) (by omega) .i64 .i64; have hv3 := run_txt_string hv2; replace hv1 := hid hv1; replace hv3 := hid hv3; clear hv2; refine wl_of rfl (wp_of_run (ex_slc (by first | exact ev rfl | rfl) (by first | exact ev rfl | rfl) (by first | exact ev rfl | rfl) hv1.out) ?_))
          | ((with_reducible refine gd_cv ?_); refine wl_of rfl (wp_of_run (ex_cnv (by first | exact ev rfl | rfl) hv3.out) ?_))
          | ((with_reducible refine gd_st (ty := 9) ?_); refine wl_of rfl (hs.st0 0 rfl rfl (sc_of rfl) rfl (by rfl) (Nat.le_of_ble_eq_true rfl) ?_); intro w hs; replace hs : St w0 [] [(tb, row 54 (Tok.cells ⟨3, (l.drop p).take (z - p), p⟩)), (rb, row 54 (Tok.cells ⟨0, [], 0⟩))] w := hs)
          | ((with_reducible refine gd_ld (ty := 54) ?_); refine wl_of rfl (hs.lda 0 rfl rfl ag54 (vs := Tok.cells ⟨3, (l.drop p).take (z - p), p⟩) (Nat.le_of_eq rfl) rfl ?_))
          | ((with_reducible refine gd_st (ty := 54) ?_); refine wl_of rfl (hs.sta 1 rfl rfl ag54 (vs := Tok.cells ⟨3, (l.drop p).take (z - p), p⟩) (by first | exact ev rfl | rfl) rfl (tok_one _) (Nat.le_of_eq rfl) (splice_all rfl) ?_); intro w hs; rw [put_none]; simp only [List.set_cons_succ, List.set_cons_zero] at hs))
        refine bodyPost_ret (results48 (T := ⟨3, (l.drop p).take (z - p), p⟩) (hs.at 1 rfl) rfl rfl rfl) rfl ?_
        exact rtok_good (by omega) hs.void
    · have hze : z = l.length := by
        have h1 := spanN_le innerI (l.drop m)
        rw [List.length_drop] at h1
        have := hmz.out
        omega
      obtain rfl : z = m := by omega
      have q1 : decide (z < l.length) = false := by simpa using hmlt
      have q1e : ((z : Int) == (l.length : Int)) = true := by simp; omega
      replace hze := hid hze
      go_wp2_with (first
        | ((with_reducible refine gd_st (ty := 3) ?_); refine wl_of rfl (hs.st0 0 rfl rfl (sc_of rfl) (v := .int .i64 3) rfl (by rfl) (Nat.le_of_ble_eq_true rfl) ?_); intro w hs; replace hs : St w0 [] [(tb, row 54 (Tok.cells ⟨3, [], p⟩)), (rb, row 54 (Tok.cells ⟨0, [], 0⟩))] w := hs)
        | ((with_reducible refine gd_sl ?_); obtain ⟨sv', hv1, hv2⟩ := run_txt_slice (hT.out.now hs) (lo := p) (hi := z) (by omega) (by omega) .i64 .i64; have hv3 := run_txt_string hv2; replace hv1 := hid hv1; replace hv3 := hid hv3; clear hv2; refine wl_of rfl (wp_of_run (ex_slc (by first | exact ev rfl | rfl) (by first | exact ev rfl | rfl) (by first | exact ev rfl | rfl) hv1.out) ?_))
        | ((with_reducible refine gd_cv ?_); refine wl_of rfl (wp_of_run (ex_cnv (by first | exact ev rfl | rfl) hv3.out) ?_))
        | ((with_reducible refine gd_st (ty := 9) ?_); refine wl_of rfl (hs.st0 0 rfl rfl (sc_of rfl) rfl (by rfl) (Nat.le_of_ble_eq_true rfl) ?_); intro w hs; replace hs : St w0 [] [(tb, row 54 (Tok.cells ⟨3, (l.drop p).take (z - p), p⟩)), (rb, row 54 (Tok.cells ⟨0, [], 0⟩))] w := hs)
        | ((with_reducible refine gd_ld (ty := 54) ?_); refine wl_of rfl (hs.lda 0 rfl rfl ag54 (vs := Tok.cells ⟨3, (l.drop p).take (z - p), p⟩) (Nat.le_of_eq rfl) rfl ?_))
        | ((with_reducible refine gd_st (ty := 54) ?_); refine wl_of rfl (hs.sta 1 rfl rfl ag54 (vs := Tok.cells ⟨3, (l.drop p).take (z - p), p⟩) (by first | exact ev rfl | rfl) rfl (tok_one _) (Nat.le_of_eq rfl) (splice_all rfl) ?_); intro w hs; rw [put_none]; simp only [List.set_cons_succ, List.set_cons_zero] at hs))
      refine bodyPost_ret (results48 (T := ⟨3, (l.drop p).take (z - p), p⟩) (hs.at 1 rfl) rfl rfl rfl) rfl ?_
      exact rtok_good (by omega) hs.void
set_option maxHeartbeats 4000000 in
set_option maxRecDepth 100000 in
theorem rtok_bar_ok {w0 : World} {v : Value} {l : List UInt8} {p : Nat} {x : UInt8} (hT : Txt w0 [] v l) (hl : l.length ≤ 1048576) (hx : l[p]? = some x) (hk : (x.toNat : Int) = 124) {z : Nat} (hz : p + 1 + spanN barI (l.drop (p + 1)) = z) (hb : nextI l z 124 = true) :
    Calls Try.prog 48 #[v, .int .i64 p] w0 (RTok w0 p (.ok (3, (l.drop (p + 1)).take (z - (p + 1)), z + 1 - p))) := by
  have hs := St.nothing w0
  obtain ⟨A, c, rfl⟩ := hT.bd
  have hlt : p < l.length := (List.getElem?_eq_some_iff.1 hx).1
  obtain ⟨b, o, rfl, hby⟩ := byte_all hT hx
  have hri := rinner_any x
  have hrd := rdigit_any x.toNat
  have hzp : p + 1 ≤ z := by omega
  have hzl : z ≤ l.length := by rw [← hz]; exact span_at_le barI (by omega)
  replace hz := hid hz
  replace hb := hid hb
  have q40 : ((x.toNat : Int) == 40) = false := by rw [hk]; rfl
  have q41 : ((x.toNat : Int) == 41) = false := by rw [hk]; rfl
  have q124 : ((x.toNat : Int) == 124) = true := by simpa using hk
  replace hri := hid hri
  replace hrd := hid hrd
  replace hby := hid hby
  replace hT := hid hT
  replace hx := hid hx
  replace hk := hid hk
  go_enter Try.func48, Try.ntmps48
  go_upto_region 1 with (first
    | ((with_reducible refine gd_al ?_); refine wl_of rfl (hs.al zc54 ?_); intro rb w hrb hs))
  have hc := hby.out _ _ hs
  go_upto_region 4 with (first
    | ((with_reducible refine gd_bd ?_); refine wl_of rfl (wp_of_run (ex_build rfl (run_build54p _ _)) ?_))
    | ((with_reducible refine gd_al ?_); refine wl_of rfl (hs.al zc54 ?_); intro tb w htb hs)
    | ((with_reducible refine gd_st (ty := 54) ?_); refine wl_of rfl (hs.sta 0 rfl rfl ag54 (vs := Tok.cells ⟨0, [], p⟩) (by first | exact ev rfl | rfl) rfl (tok_one _) (Nat.le_of_eq rfl) (splice_all rfl) ?_); intro w hs; rw [put_none]; simp only [List.set_cons_zero] at hs))
  replace hs : St w0 [] [(tb, row 54 (Tok.cells ⟨0, [], p⟩)), (rb, row 54 (Tok.cells ⟨0, [], 0⟩))] w := hs
  clear hc
  go_wp2_with fail
  go_loopg [9] (l.length - (p + 1)) (fun g iv wr => ∃ m : Nat, iv = .int .i64 m ∧ p + 1 ≤ m ∧ m ≤ z ∧ g = l.length - m ∧ Hid (m + spanN barI (l.drop m) = z) ∧ St w0 [] [(tb, row 54 (Tok.cells ⟨0, [], p⟩)), (rb, row 54 (Tok.cells ⟨0, [], 0⟩))] wr)
  case atStart => exact ⟨p + 1, by first | rfl | go_num, Nat.le_refl _, hzp, rfl, hz, hs⟩
  case round =>
    clear hs
    obtain ⟨m, rfl, hm1, hm2, rfl, hmz, hs⟩ := hrel
    by_cases hmlt : m < l.length
    · obtain ⟨y, hy⟩ : ∃ y, l[m]? = some y := ⟨_, List.getElem?_eq_getElem hmlt⟩
      obtain ⟨b2, o2, hbo, hc⟩ := byte_at hT.out hs hy
      cases hbo
      have hdr := skip_cons hy
      have hsq := hid hs
      clear hs
      cases hP : barI y.toNat with
      | true =>
        have hmz2 : m + 1 + spanN barI (l.drop (m + 1)) = z := by
          have := hmz.out
          rw [hdr] at this
          simp only [spanN, hP, if_true] at this
          omega
        have hmz3 : m + 1 ≤ z := by omega
        replace hmz2 := hid hmz2
        replace hy := hid hy
        replace hdr := hid hdr
        have hbs : plainI y.toNat = true ∧ ((y.toNat : Int) != 124) = true ∧ ((y.toNat : Int) != 92) = true := by
          simp only [barI, Bool.and_eq_true] at hP
          exact ⟨hP.1.1, hP.1.2, hP.2⟩
        obtain ⟨hpl, q2, q3⟩ := hbs
        have hcl := rplain_any y.toNat
        rw [hpl] at hcl
        replace hcl := hid hcl
        replace hP := hid hP
        replace hpl := hid hpl
        go_wp2_with (first
          | (go_at_call 75; refine ((hcl).out _).mono ?_; rintro e w' ⟨rfl, rfl⟩))
        go_roundg (l.length - (m + 1))
        case measure => omega
        case rel => exact ⟨m + 1, by first | rfl | go_num, by omega, hmz3, rfl, hmz2, hsq.out⟩
      | false =>
        obtain rfl : z = m := by
          have := hmz.out
          rw [hdr] at this
          simp only [spanN, hP] at this
          simpa using this.symm
        have q1 : decide (z < l.length) = true := by simpa using hmlt
        have q1e : ((z : Int) == (l.length : Int)) = false := by rw [beq_eq_false_iff_ne]; omega
        replace hdr := hid hdr
        have e124 : (y.toNat : Int) = 124 := by
          have := hb.out
          simp only [nextI, hy] at this
          simpa using this
        have q2 : ((y.toNat : Int) != 124) = false := by rw [e124]; rfl
        have hcl := rplain_any y.toNat
        rw [show plainI (y.toNat : Int) = true by rw [e124]; rfl] at hcl
        replace e124 := hid e124
        replace hP := hid hP
        replace hy := hid hy
        have hs := hsq.out
        replace hcl := hid hcl
        go_wp2_with (first
          | (go_at_call 75; refine ((hcl).out _).mono ?_; rintro e w' ⟨rfl, rfl⟩)
          | ((with_reducible refine gd_st (ty := 3) ?_); refine wl_of rfl (hs.st0 0 rfl rfl (sc_of rfl) (v := .int .i64 3) rfl (by rfl) (Nat.le_of_ble_eq_true rfl) ?_); intro w hs; replace hs : St w0 [] [(tb, row 54 (Tok.cells ⟨3, [], p⟩)), (rb, row 54 (Tok.cells ⟨0, [], 0⟩))] w := hs)
          | ((with_reducible refine gd_sl ?_); obtain ⟨sv', hv1, hv2⟩ := run_txt_slice (hT.out.now hs) (lo := p + 1) (hi := z) (by omega) (by omega) .i64 .i64; have hv3 := run_txt_string hv2; replace hv1 := hid hv1; replace hv3 := hid hv3; clear hv2; refine wl_of rfl (wp_of_run (ex_slc (by first | exact ev rfl | rfl) (by first | exact ev rfl | rfl) (by first | exact ev rfl | rfl) hv1.out) ?_))
          | ((with_reducible refine gd_cv ?_); refine wl_of rfl (wp_of_run (ex_cnv (by first | exact ev rfl | rfl) hv3.out) ?_))
          | ((with_reducible refine gd_st (ty := 9) ?_); refine wl_of rfl (hs.st0 0 rfl rfl (sc_of rfl) rfl (by rfl) (Nat.le_of_ble_eq_true rfl) ?_); intro w hs; replace hs : St w0 [] [(tb, row 54 (Tok.cells ⟨3, (l.drop (p + 1)).take (z - (p + 1)), p⟩)), (rb, row 54 (Tok.cells ⟨0, [], 0⟩))] w := hs)
          | ((with_reducible refine gd_ld (ty := 54) ?_); refine wl_of rfl (hs.lda 0 rfl rfl ag54 (vs := Tok.cells ⟨3, (l.drop (p + 1)).take (z - (p + 1)), p⟩) (Nat.le_of_eq rfl) rfl ?_))
          | ((with_reducible refine gd_st (ty := 54) ?_); refine wl_of rfl (hs.sta 1 rfl rfl ag54 (vs := Tok.cells ⟨3, (l.drop (p + 1)).take (z - (p + 1)), p⟩) (by first | exact ev rfl | rfl) rfl (tok_one _) (Nat.le_of_eq rfl) (splice_all rfl) ?_); intro w hs; rw [put_none]; simp only [List.set_cons_succ, List.set_cons_zero] at hs))
        refine bodyPost_ret (results48 (T := ⟨3, (l.drop (p + 1)).take (z - (p + 1)), p⟩) (hs.at 1 rfl) rfl rfl rfl) rfl ?_
        exact rtok_good (by omega) hs.void
    · have hze : z = l.length := by
        have h1 := spanN_le barI (l.drop m)
        rw [List.length_drop] at h1
        have := hmz.out
        omega
      obtain rfl : z = m := by omega
      have q1 : decide (z < l.length) = false := by simpa using hmlt
      have q1e : ((z : Int) == (l.length : Int)) = true := by simp; omega
      exact absurd (nextI_lt hb.out) (by omega)
set_option maxHeartbeats 4000000 in
set_option maxRecDepth 100000 in
theorem rtok_bar_bad {w0 : World} {v : Value} {l : List UInt8} {p : Nat} {x : UInt8} (hT : Txt w0 [] v l) (hl : l.length ≤ 1048576) (hx : l[p]? = some x) (hk : (x.toNat : Int) = 124) {z : Nat} (hz : p + 1 + spanN barI (l.drop (p + 1)) = z) (hb : nextI l z 124 = false) :
    Calls Try.prog 48 #[v, .int .i64 p] w0 (RTok w0 p (.error (z - p))) := by
  have hs := St.nothing w0
  obtain ⟨A, c, rfl⟩ := hT.bd
  have hlt : p < l.length := (List.getElem?_eq_some_iff.1 hx).1
  obtain ⟨b, o, rfl, hby⟩ := byte_all hT hx
  have hri := rinner_any x
  have hrd := rdigit_any x.toNat
  have hzp : p + 1 ≤ z := by omega
  have hzl : z ≤ l.length := by rw [← hz]; exact span_at_le barI (by omega)
  replace hz := hid hz
  replace hb := hid hb
  have q40 : ((x.toNat : Int) == 40) = false := by rw [hk]; rfl
  have q41 : ((x.toNat : Int) == 41) = false := by rw [hk]; rfl
  have q124 : ((x.toNat : Int) == 124) = true := by simpa using hk
  replace hri := hid hri
  replace hrd := hid hrd
  replace hby := hid hby
  replace hT := hid hT
  replace hx := hid hx
  replace hk := hid hk
  go_enter Try.func48, Try.ntmps48
  go_upto_region 1 with (first
    | ((with_reducible refine gd_al ?_); refine wl_of rfl (hs.al zc54 ?_); intro rb w hrb hs))
  have hc := hby.out _ _ hs
  go_upto_region 4 with (first
    | ((with_reducible refine gd_bd ?_); refine wl_of rfl (wp_of_run (ex_build rfl (run_build54p _ _)) ?_))
    | ((with_reducible refine gd_al ?_); refine wl_of rfl (hs.al zc54 ?_); intro tb w htb hs)
    | ((with_reducible refine gd_st (ty := 54) ?_); refine wl_of rfl (hs.sta 0 rfl rfl ag54 (vs := Tok.cells ⟨0, [], p⟩) (by first | exact ev rfl | rfl) rfl (tok_one _) (Nat.le_of_eq rfl) (splice_all rfl) ?_); intro w hs; rw [put_none]; simp only [List.set_cons_zero] at hs))
  replace hs : St w0 [] [(tb, row 54 (Tok.cells ⟨0, [], p⟩)), (rb, row 54 (Tok.cells ⟨0, [], 0⟩))] w := hs
  clear hc
  go_wp2_with fail
  go_loopg [9] (l.length - (p + 1)) (fun g iv wr => ∃ m : Nat, iv = .int .i64 m ∧ p + 1 ≤ m ∧ m ≤ z ∧ g = l.length - m ∧ Hid (m + spanN barI (l.drop m) = z) ∧ St w0 [] [(tb, row 54 (Tok.cells ⟨0, [], p⟩)), (rb, row 54 (Tok.cells ⟨0, [], 0⟩))] wr)
  case atStart => exact ⟨p + 1, by first | rfl | go_num, Nat.le_refl _, hzp, rfl, hz, hs⟩
  case round =>
    clear hs
    obtain ⟨m, rfl, hm1, hm2, rfl, hmz, hs⟩ := hrel
    by_cases hmlt : m < l.length
    · obtain ⟨y, hy⟩ : ∃ y, l[m]? = some y := ⟨_, List.getElem?_eq_getElem hmlt⟩
      obtain ⟨b2, o2, hbo, hc⟩ := byte_at hT.out hs hy
      cases hbo
      have hdr := skip_cons hy
      have hsq := hid hs
      clear hs
      cases hP : barI y.toNat with
      | true =>
        have hmz2 : m + 1 + spanN barI (l.drop (m + 1)) = z := by
          have := hmz.out
          rw [hdr] at this
          simp only [spanN, hP, if_true] at this
          omega
        have hmz3 : m + 1 ≤ z := by omega
        replace hmz2 := hid hmz2
        replace hy := hid hy
        replace hdr := hid hdr
        have hbs : plainI y.toNat = true ∧ ((y.toNat : Int) != 124) = true ∧ ((y.toNat : Int) != 92) = true := by
          simp only [barI, Bool.and_eq_true] at hP
          exact ⟨hP.1.1, hP.1.2, hP.2⟩
        obtain ⟨hpl, q2, q3⟩ := hbs
        have hcl := rplain_any y.toNat
        rw [hpl] at hcl
        replace hcl := hid hcl
        replace hP := hid hP
        replace hpl := hid hpl
        go_wp2_with (first
          | (go_at_call 75; refine ((hcl).out _).mono ?_; rintro e w' ⟨rfl, rfl⟩))
        go_roundg (l.length - (m + 1))
        case measure => omega
        case rel => exact ⟨m + 1, by first | rfl | go_num, by omega, hmz3, rfl, hmz2, hsq.out⟩
      | false =>
        obtain rfl : z = m := by
          have := hmz.out
          rw [hdr] at this
          simp only [spanN, hP] at this
          simpa using this.symm
        have q1 : decide (z < l.length) = true := by simpa using hmlt
        have q1e : ((z : Int) == (l.length : Int)) = false := by rw [beq_eq_false_iff_ne]; omega
        replace hdr := hid hdr
        have e124 : ((y.toNat : Int) == 124) = false := by
          have := hb.out
          simpa only [nextI, hy] using this
        have q2 : ((y.toNat : Int) != 124) = true := by simp only [bne, e124]; rfl
        have hcl := rplain_any y.toNat
        replace e124 := hid e124
        cases hpl : plainI y.toNat with
        | false =>
          rw [hpl] at hcl
          replace hpl := hid hpl
          replace hP := hid hP
          replace hy := hid hy
          have hs := hsq.out
          replace hcl := hid hcl
          go_wp2_with (first
            | (go_at_call 75; refine ((hcl).out _).mono ?_; rintro e w' ⟨rfl, rfl⟩)
            | ((with_reducible refine gd_ld (ty := 54) ?_); refine wl_of rfl (hs.lda 0 rfl rfl ag54 (vs := Tok.cells ⟨0, [], p⟩) (Nat.le_of_eq rfl) rfl ?_))
            | ((with_reducible refine gd_st (ty := 54) ?_); refine wl_of rfl (hs.sta 1 rfl rfl ag54 (vs := Tok.cells ⟨0, [], p⟩) (by first | exact ev rfl | rfl) rfl (tok_one _) (Nat.le_of_eq rfl) (splice_all rfl) ?_); intro w hs; rw [put_none]; simp only [List.set_cons_succ, List.set_cons_zero] at hs))
          refine bodyPost_ret (results48 (T := ⟨0, [], p⟩) (hs.at 1 rfl) rfl rfl rfl) rfl ?_
          exact rtok_bad (T := ⟨0, [], p⟩) (by omega) hs.void
        | true =>
          have q3 : ((y.toNat : Int) != 92) = false := by
            simp only [barI, hpl, q2, Bool.true_and] at hP
            exact hP
          rw [hpl] at hcl
          replace hpl := hid hpl
          replace hP := hid hP
          replace hy := hid hy
          have hs := hsq.out
          replace hcl := hid hcl
          go_wp2_with (first
            | (go_at_call 75; refine ((hcl).out _).mono ?_; rintro e w' ⟨rfl, rfl⟩)
            | ((with_reducible refine gd_ld (ty := 54) ?_); refine wl_of rfl (hs.lda 0 rfl rfl ag54 (vs := Tok.cells ⟨0, [], p⟩) (Nat.le_of_eq rfl) rfl ?_))
            | ((with_reducible refine gd_st (ty := 54) ?_); refine wl_of rfl (hs.sta 1 rfl rfl ag54 (vs := Tok.cells ⟨0, [], p⟩) (by first | exact ev rfl | rfl) rfl (tok_one _) (Nat.le_of_eq rfl) (splice_all rfl) ?_); intro w hs; rw [put_none]; simp only [List.set_cons_succ, List.set_cons_zero] at hs))
          refine bodyPost_ret (results48 (T := ⟨0, [], p⟩) (hs.at 1 rfl) rfl rfl rfl) rfl ?_
          exact rtok_bad (T := ⟨0, [], p⟩) (by omega) hs.void
    · have hze : z = l.length := by
        have h1 := spanN_le barI (l.drop m)
        rw [List.length_drop] at h1
        have := hmz.out
        omega
      obtain rfl : z = m := by omega
      have q1 : decide (z < l.length) = false := by simpa using hmlt
      have q1e : ((z : Int) == (l.length : Int)) = true := by simp; omega
      replace hze := hid hze
      go_wp2_with (first
        | ((with_reducible refine gd_ld (ty := 54) ?_); refine wl_of rfl (hs.lda 0 rfl rfl ag54 (vs := Tok.cells ⟨0, [], p⟩) (Nat.le_of_eq rfl) rfl ?_))
        | ((with_reducible refine gd_st (ty := 54) ?_); refine wl_of rfl (hs.sta 1 rfl rfl ag54 (vs := Tok.cells ⟨0, [], p⟩) (by first | exact ev rfl | rfl) rfl (tok_one _) (Nat.le_of_eq rfl) (splice_all rfl) ?_); intro w hs; rw [put_none]; simp only [List.set_cons_succ, List.set_cons_zero] at hs))
      refine bodyPost_ret (results48 (T := ⟨0, [], p⟩) (hs.at 1 rfl) rfl rfl rfl) rfl ?_
      exact rtok_bad (T := ⟨0, [], p⟩) (by omega) hs.void
end Go.Proofs.Ytclingkhdmhhoaa

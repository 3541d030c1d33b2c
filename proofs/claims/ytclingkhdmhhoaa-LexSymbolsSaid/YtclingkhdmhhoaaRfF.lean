/- The walk of the reference's Token: decimals. No condition. -/
import Derived.Test.YtclingkhdmhhoaaRfD
namespace Go.Proofs.Ytclingkhdmhhoaa
open Go.RowKit
set_option linter.unusedSimpArgs false
set_option linter.unusedVariables false

set_option maxHeartbeats 4000000 in
set_option maxRecDepth 100000 in
theorem rtok_dot_bad_n {w0 : World} {v : Value} {l : List UInt8} {p : Nat} {x : UInt8} (hT : Txt w0 [] v l) (hl : l.length ≤ 1048576) (hx : l[p]? = some x) (hd : digitI x.toNat = true) (h48 : (x.toNat : Int) ≠ 48) {z : Nat} (hz : p + 1 + spanN digitI (l.drop (p + 1)) = z) (hdot : nextI l z 46 = true) {z2 : Nat} (hz2 : z + 1 + spanN digitI (l.drop (z + 1)) = z2) (h2 : z2 = z + 1) :
    Calls Try.prog 48 #[v, .int .i64 p] w0 (RTok w0 p (.error (z2 - p))) := by
  have hs := St.nothing w0
  obtain ⟨A, c, rfl⟩ := hT.bd
  have hlt : p < l.length := (List.getElem?_eq_some_iff.1 hx).1
  obtain ⟨b, o, rfl, hby⟩ := byte_all hT hx
  have hri := rinner_any x
  have hrd := rdigit_any x.toNat
  have h1 := dig_inner hd
  rw [h1] at hri
  rw [hd] at hrd
  have hzp : p + 1 ≤ z := by omega
  have hzl : z ≤ l.length := by rw [← hz]; exact span_at_le digitI (by omega)
  replace hz := hid hz
  clear h1
  replace hdot := hid hdot
  have hz2p : z + 1 ≤ z2 := by omega
  have hz2l : z2 ≤ l.length := by rw [← hz2]; exact span_at_le digitI (by have := nextI_lt hdot.out; omega)
  replace hz2 := hid hz2
  have qz2 : ((z2 : Int) == (z : Int) + 1) = true := by simp; omega
  have q40 : ((x.toNat : Int) == 40) = false := by exact dig_ne hd rfl
  have q41 : ((x.toNat : Int) == 41) = false := by exact dig_ne hd rfl
  have q124 : ((x.toNat : Int) == 124) = false := by exact dig_ne hd rfl
  have q34 : ((x.toNat : Int) == 34) = false := by exact dig_ne hd rfl
  have q58 : ((x.toNat : Int) == 58) = false := by exact dig_ne hd rfl
  have q48 : ((x.toNat : Int) == 48) = false := by simpa using h48
  replace hri := hid hri
  replace hrd := hid hrd
  replace hby := hid hby
  replace hT := hid hT
  replace hx := hid hx
  clear h48
  replace hd := hid hd
  replace h2 := hid h2
  go_enter Try.func48, Try.ntmps48
  go_upto_region 1 with (first
    | ((with_reducible refine gd_al ?_); refine wl_of rfl (hs.al zc54 ?_); intro rb w hrb hs))
  have hc := hby.out _ _ hs
  go_upto_region 4 with (first
    | ((with_reducible refine gd_bd ?_); refine wl_of rfl (wp_of_run (ex_build rfl (run_build54p _ _)) ?_))
    | ((with_reducible refine gd_al ?_); refine wl_of rfl (hs.al zc54 ?_); intro tb w htb hs)
    | ((with_reducible refine gd_st (ty := 54) ?_); refine wl_of rfl (hs.sta 0 rfl rfl ag54 (vs := Tok.cells ⟨0, [], p⟩) (by first | exact ev rfl | rfl) rfl (tok_one _) (Nat.le_of_eq rfl) (splice_all rfl) ?_); intro w hs; rw [put_none]; simp only [List.set_cons_zero] at hs))
  replace hs : St w0 [] [(tb, row 54 (Tok.cells ⟨0, [], p⟩)), (rb, row 54 (Tok.cells ⟨0, [], 0⟩))] w := hs
  clear hc
  go_wp2_with (first
    | (go_at_call 76; refine (hri.out _).mono ?_; rintro e w' ⟨rfl, rfl⟩)
    | (go_at_call 77; refine (hrd.out _).mono ?_; rintro e w' ⟨rfl, rfl⟩))
  go_loopg [9] (l.length - (p + 1)) (fun g iv wr => ∃ m : Nat, iv = .int .i64 m ∧ p + 1 ≤ m ∧ m ≤ z ∧ g = l.length - m ∧ Hid (m + spanN digitI (l.drop m) = z) ∧ St w0 [] [(tb, row 54 (Tok.cells ⟨0, [], p⟩)), (rb, row 54 (Tok.cells ⟨0, [], 0⟩))] wr)
  case atStart => exact ⟨p + 1, by first | rfl | go_num, Nat.le_refl _, hzp, rfl, hz, hs⟩
  case round =>
    clear hs
    obtain ⟨m, rfl, hm1, hm2, rfl, hmz, hs⟩ := hrel
    by_cases hmlt : m < l.length
    · obtain ⟨y, hy⟩ : ∃ y, l[m]? = some y := ⟨_, List.getElem?_eq_getElem hmlt⟩
      obtain ⟨b2, o2, hbo, hc⟩ := byte_at hT.out hs hy
      cases hbo
      have hdr := skip_cons hy
      have hsq := hid hs
      clear hs
      cases hP : digitI y.toNat with
      | true =>
        have hmz2 : m + 1 + spanN digitI (l.drop (m + 1)) = z := by
          have := hmz.out
          rw [hdr] at this
          simp only [spanN, hP, if_true] at this
          omega
        have hmz3 : m + 1 ≤ z := by omega
        replace hmz2 := hid hmz2
        replace hy := hid hy
        replace hdr := hid hdr
        have hcl := rdigit_any y.toNat
        rw [hP] at hcl
        replace hcl := hid hcl
        replace hP := hid hP
        go_wp2_with (first
          | (go_at_call 77; refine ((hcl).out _).mono ?_; rintro e w' ⟨rfl, rfl⟩))
        go_roundg (l.length - (m + 1))
        case measure => omega
        case rel => exact ⟨m + 1, by first | rfl | go_num, by omega, hmz3, rfl, hmz2, hsq.out⟩
      | false =>
        obtain rfl : z = m := by
          have := hmz.out
          rw [hdr] at this
          simp only [spanN, hP] at this
          simpa using this.symm
        have q1 : decide (z < l.length) = true := by simpa using hmlt
        have q1e : ((z : Int) == (l.length : Int)) = false := by rw [beq_eq_false_iff_ne]; omega
        replace hdr := hid hdr
        have hcl := rdigit_any y.toNat
        rw [hP] at hcl
        replace hcl := hid hcl
        replace hP := hid hP
        obtain ⟨b3, o3, hbo3, hby3⟩ := byte_all hT.out hy
        cases hbo3
        replace hby3 := hid hby3
        replace hy := hid hy
        have hs := hsq.out
        have e46 : (y.toNat : Int) = 46 := by
          have := hdot.out
          simp only [nextI, hy.out] at this
          simpa using this
        have q46 : ((y.toNat : Int) == 46) = true := by rw [e46]; rfl
        replace e46 := hid e46
        go_wp2_with (first
          | (go_at_call 77; refine ((hcl).out _).mono ?_; rintro e w' ⟨rfl, rfl⟩)
          | ((with_reducible refine gd_st (ty := 3) ?_); refine wl_of rfl (hs.st0 0 rfl rfl (sc_of rfl) (v := .int .i64 4) rfl (by rfl) (Nat.le_of_ble_eq_true rfl) ?_); intro w hs; replace hs : St w0 [] [(tb, row 54 (Tok.cells ⟨4, [], p⟩)), (rb, row 54 (Tok.cells ⟨0, [], 0⟩))] w := hs; have hc := hby3.out _ _ hs))
        clear hc q46 q1 q1e
        replace hcl := hid hcl
        go_loopg [9] (l.length - (z + 1)) (fun g iv wr => ∃ m : Nat, iv = .int .i64 m ∧ z + 1 ≤ m ∧ m ≤ z2 ∧ g = l.length - m ∧ Hid (m + spanN digitI (l.drop m) = z2) ∧ St w0 [] [(tb, row 54 (Tok.cells ⟨4, [], p⟩)), (rb, row 54 (Tok.cells ⟨0, [], 0⟩))] wr)
        case atStart => exact ⟨z + 1, by first | rfl | go_num, Nat.le_refl _, hz2p, rfl, hz2, hs⟩
        case round =>
          clear hs
          obtain ⟨m, rfl, hm1, hm2, rfl, hmz, hs⟩ := hrel
          by_cases hmlt : m < l.length
          · obtain ⟨y, hy⟩ : ∃ y, l[m]? = some y := ⟨_, List.getElem?_eq_getElem hmlt⟩
            obtain ⟨b2, o2, hbo, hc⟩ := byte_at hT.out hs hy
            cases hbo
            have hdr := skip_cons hy
            have hsq := hid hs
            clear hs
            cases hP : digitI y.toNat with
            | true =>
              have hmz2 : m + 1 + spanN digitI (l.drop (m + 1)) = z2 := by
                have := hmz.out
                rw [hdr] at this
                simp only [spanN, hP, if_true] at this
                omega
              have hmz3 : m + 1 ≤ z2 := by omega
              replace hmz2 := hid hmz2
              replace hy := hid hy
              replace hdr := hid hdr
              have hcl := rdigit_any y.toNat
              rw [hP] at hcl
              replace hcl := hid hcl
              replace hP := hid hP
              go_wp2_with (first
                | (go_at_call 77; refine ((hcl).out _).mono ?_; rintro e w' ⟨rfl, rfl⟩))
              go_roundg (l.length - (m + 1))
              case measure => omega
              case rel => exact ⟨m + 1, by first | rfl | go_num, by omega, hmz3, rfl, hmz2, hsq.out⟩
            | false =>
              obtain rfl : z2 = m := by
                have := hmz.out
                rw [hdr] at this
                simp only [spanN, hP] at this
                simpa using this.symm
              have q1 : decide (z2 < l.length) = true := by simpa using hmlt
              have q1e : ((z2 : Int) == (l.length : Int)) = false := by rw [beq_eq_false_iff_ne]; omega
              replace hdr := hid hdr
              have hcl := rdigit_any y.toNat
              rw [hP] at hcl
              replace hcl := hid hcl
              replace hP := hid hP
              obtain ⟨b3, o3, hbo3, hby3⟩ := byte_all hT.out hy
              cases hbo3
              replace hby3 := hid hby3
              replace hy := hid hy
              have hs := hsq.out
              go_wp2_with (first
                | (go_at_call 77; refine ((hcl).out _).mono ?_; rintro e w' ⟨rfl, rfl⟩)
                | ((with_reducible refine gd_ld (ty := 54) ?_); refine wl_of rfl (hs.lda 0 rfl rfl ag54 (vs := Tok.cells ⟨4, [], p⟩) (Nat.le_of_eq rfl) rfl ?_))
                | ((with_reducible refine gd_st (ty := 54) ?_); refine wl_of rfl (hs.sta 1 rfl rfl ag54 (vs := Tok.cells ⟨4, [], p⟩) (by first | exact ev rfl | rfl) rfl (tok_one _) (Nat.le_of_eq rfl) (splice_all rfl) ?_); intro w hs; rw [put_none]; simp only [List.set_cons_succ, List.set_cons_zero] at hs))
              refine bodyPost_ret (results48 (T := ⟨4, [], p⟩) (hs.at 1 rfl) rfl rfl rfl) rfl ?_
              exact rtok_bad (T := ⟨4, [], p⟩) (by have := h2.out; omega) hs.void
          · have hze : z2 = l.length := by
              have h1 := spanN_le digitI (l.drop m)
              rw [List.length_drop] at h1
              have := hmz.out
              omega
            obtain rfl : z2 = m := by omega
            have q1 : decide (z2 < l.length) = false := by simpa using hmlt
            have q1e : ((z2 : Int) == (l.length : Int)) = true := by simp; omega
            replace hze := hid hze
            go_wp2_with (first
              | ((with_reducible refine gd_ld (ty := 54) ?_); refine wl_of rfl (hs.lda 0 rfl rfl ag54 (vs := Tok.cells ⟨4, [], p⟩) (Nat.le_of_eq rfl) rfl ?_))
              | ((with_reducible refine gd_st (ty := 54) ?_); refine wl_of rfl (hs.sta 1 rfl rfl ag54 (vs := Tok.cells ⟨4, [], p⟩) (by first | exact ev rfl | rfl) rfl (tok_one _) (Nat.le_of_eq rfl) (splice_all rfl) ?_); intro w hs; rw [put_none]; simp only [List.set_cons_succ, List.set_cons_zero] at hs))
            refine bodyPost_ret (results48 (T := ⟨4, [], p⟩) (hs.at 1 rfl) rfl rfl rfl) rfl ?_
            exact rtok_bad (T := ⟨4, [], p⟩) (by have := h2.out; omega) hs.void
    · have hze : z = l.length := by
        have h1 := spanN_le digitI (l.drop m)
        rw [List.length_drop] at h1
        have := hmz.out
        omega
      obtain rfl : z = m := by omega
      have q1 : decide (z < l.length) = false := by simpa using hmlt
      have q1e : ((z : Int) == (l.length : Int)) = true := by simp; omega
      exact absurd (nextI_lt hdot.out) (by omega)
set_option maxHeartbeats 4000000 in
set_option maxRecDepth 100000 in
theorem rtok_dec_ok_n {w0 : World} {v : Value} {l : List UInt8} {p : Nat} {x : UInt8} (hT : Txt w0 [] v l) (hl : l.length ≤ 1048576) (hx : l[p]? = some x) (hd : digitI x.toNat = true) (h48 : (x.toNat : Int) ≠ 48) {z : Nat} (hz : p + 1 + spanN digitI (l.drop (p + 1)) = z) (hdot : nextI l z 46 = true) {z2 : Nat} (hz2 : z + 1 + spanN digitI (l.drop (z + 1)) = z2) (h2 : z + 1 < z2) (hi : holdsI innerI l z2 = false) :
    Calls Try.prog 48 #[v, .int .i64 p] w0 (RTok w0 p (.ok (5, (l.drop p).take (z2 - p), z2 - p))) := by
  have hs := St.nothing w0
  obtain ⟨A, c, rfl⟩ := hT.bd
  have hlt : p < l.length := (List.getElem?_eq_some_iff.1 hx).1
  obtain ⟨b, o, rfl, hby⟩ := byte_all hT hx
  have hri := rinner_any x
  have hrd := rdigit_any x.toNat
  have h1 := dig_inner hd
  rw [h1] at hri
  rw [hd] at hrd
  have hzp : p + 1 ≤ z := by omega
  have hzl : z ≤ l.length := by rw [← hz]; exact span_at_le digitI (by omega)
  replace hz := hid hz
  clear h1
  replace hdot := hid hdot
  have hz2p : z + 1 ≤ z2 := by omega
  have hz2l : z2 ≤ l.length := by rw [← hz2]; exact span_at_le digitI (by have := nextI_lt hdot.out; omega)
  replace hz2 := hid hz2
  have qz2 : ((z2 : Int) == (z : Int) + 1) = false := by rw [beq_eq_false_iff_ne]; omega
  replace hi := hid hi
  have q40 : ((x.toNat : Int) == 40) = false := by exact dig_ne hd rfl
  have q41 : ((x.toNat : Int) == 41) = false := by exact dig_ne hd rfl
  have q124 : ((x.toNat : Int) == 124) = false := by exact dig_ne hd rfl
  have q34 : ((x.toNat : Int) == 34) = false := by exact dig_ne hd rfl
  have q58 : ((x.toNat : Int) == 58) = false := by exact dig_ne hd rfl
  have q48 : ((x.toNat : Int) == 48) = false := by simpa using h48
  replace hri := hid hri
  replace hrd := hid hrd
  replace hby := hid hby
  replace hT := hid hT
  replace hx := hid hx
  clear h48
  replace hd := hid hd
  go_enter Try.func48, Try.ntmps48
  go_upto_region 1 with (first
    | ((with_reducible refine gd_al ?_); refine wl_of rfl (hs.al zc54 ?_); intro rb w hrb hs))
  have hc := hby.out _ _ hs
  go_upto_region 4 with (first
    | ((with_reducible refine gd_bd ?_); refine wl_of rfl (wp_of_run (ex_build rfl (run_build54p _ _)) ?_))
    | ((with_reducible refine gd_al ?_); refine wl_of rfl (hs.al zc54 ?_); intro tb w htb hs)
    | ((with_reducible refine gd_st (ty := 54) ?_); refine wl_of rfl (hs.sta 0 rfl rfl ag54 (vs := Tok.cells ⟨0, [], p⟩) (by first | exact ev rfl | rfl) rfl (tok_one _) (Nat.le_of_eq rfl) (splice_all rfl) ?_); intro w hs; rw [put_none]; simp only [List.set_cons_zero] at hs))
  replace hs : St w0 [] [(tb, row 54 (Tok.cells ⟨0, [], p⟩)), (rb, row 54 (Tok.cells ⟨0, [], 0⟩))] w := hs
  clear hc
  go_wp2_with (first
    | (go_at_call 76; refine (hri.out _).mono ?_; rintro e w' ⟨rfl, rfl⟩)
    | (go_at_call 77; refine (hrd.out _).mono ?_; rintro e w' ⟨rfl, rfl⟩))
  go_loopg [9] (l.length - (p + 1)) (fun g iv wr => ∃ m : Nat, iv = .int .i64 m ∧ p + 1 ≤ m ∧ m ≤ z ∧ g = l.length - m ∧ Hid (m + spanN digitI (l.drop m) = z) ∧ St w0 [] [(tb, row 54 (Tok.cells ⟨0, [], p⟩)), (rb, row 54 (Tok.cells ⟨0, [], 0⟩))] wr)
  case atStart => exact ⟨p + 1, by first | rfl | go_num, Nat.le_refl _, hzp, rfl, hz, hs⟩
  case round =>
    clear hs
    obtain ⟨m, rfl, hm1, hm2, rfl, hmz, hs⟩ := hrel
    by_cases hmlt : m < l.length
    · obtain ⟨y, hy⟩ : ∃ y, l[m]? = some y := ⟨_, List.getElem?_eq_getElem hmlt⟩
      obtain ⟨b2, o2, hbo, hc⟩ := byte_at hT.out hs hy
      cases hbo
      have hdr := skip_cons hy
      have hsq := hid hs
      clear hs
      cases hP : digitI y.toNat with
      | true =>
        have hmz2 : m + 1 + spanN digitI (l.drop (m + 1)) = z := by
          have := hmz.out
          rw [hdr] at this
          simp only [spanN, hP, if_true] at this
          omega
        have hmz3 : m + 1 ≤ z := by omega
        replace hmz2 := hid hmz2
        replace hy := hid hy
        replace hdr := hid hdr
        have hcl := rdigit_any y.toNat
        rw [hP] at hcl
        replace hcl := hid hcl
        replace hP := hid hP
        go_wp2_with (first
          | (go_at_call 77; refine ((hcl).out _).mono ?_; rintro e w' ⟨rfl, rfl⟩))
        go_roundg (l.length - (m + 1))
        case measure => omega
        case rel => exact ⟨m + 1, by first | rfl | go_num, by omega, hmz3, rfl, hmz2, hsq.out⟩
      | false =>
        obtain rfl : z = m := by
          have := hmz.out
          rw [hdr] at this
          simp only [spanN, hP] at this
          simpa using this.symm
        have q1 : decide (z < l.length) = true := by simpa using hmlt
        have q1e : ((z : Int) == (l.length : Int)) = false := by rw [beq_eq_false_iff_ne]; omega
        replace hdr := hid hdr
        have hcl := rdigit_any y.toNat
        rw [hP] at hcl
        replace hcl := hid hcl
        replace hP := hid hP
        obtain ⟨b3, o3, hbo3, hby3⟩ := byte_all hT.out hy
        cases hbo3
        replace hby3 := hid hby3
        replace hy := hid hy
        have hs := hsq.out
        have e46 : (y.toNat : Int) = 46 := by
          have := hdot.out
          simp only [nextI, hy.out] at this
          simpa using this
        have q46 : ((y.toNat : Int) == 46) = true := by rw [e46]; rfl
        replace e46 := hid e46
        go_wp2_with (first
          | (go_at_call 77; refine ((hcl).out _).mono ?_; rintro e w' ⟨rfl, rfl⟩)
          | ((with_reducible refine gd_st (ty := 3) ?_); refine wl_of rfl (hs.st0 0 rfl rfl (sc_of rfl) (v := .int .i64 4) rfl (by rfl) (Nat.le_of_ble_eq_true rfl) ?_); intro w hs; replace hs : St w0 [] [(tb, row 54 (Tok.cells ⟨4, [], p⟩)), (rb, row 54 (Tok.cells ⟨0, [], 0⟩))] w := hs; have hc := hby3.out _ _ hs))
        clear hc q46 q1 q1e
        replace hcl := hid hcl
        go_loopg [9] (l.length - (z + 1)) (fun g iv wr => ∃ m : Nat, iv = .int .i64 m ∧ z + 1 ≤ m ∧ m ≤ z2 ∧ g = l.length - m ∧ Hid (m + spanN digitI (l.drop m) = z2) ∧ St w0 [] [(tb, row 54 (Tok.cells ⟨4, [], p⟩)), (rb, row 54 (Tok.cells ⟨0, [], 0⟩))] wr)
        case atStart => exact ⟨z + 1, by first | rfl | go_num, Nat.le_refl _, hz2p, rfl, hz2, hs⟩
        case round =>
          clear hs
          obtain ⟨m, rfl, hm1, hm2, rfl, hmz, hs⟩ := hrel
          by_cases hmlt : m < l.length
          · obtain ⟨y, hy⟩ : ∃ y, l[m]? = some y := ⟨_, List.getElem?_eq_getElem hmlt⟩
            obtain ⟨b2, o2, hbo, hc⟩ := byte_at hT.out hs hy
            cases hbo
            have hdr := skip_cons hy
            have hsq := hid hs
            clear hs
            cases hP : digitI y.toNat with
            | true =>
              have hmz2 : m + 1 + spanN digitI (l.drop (m + 1)) = z2 := by
                have := hmz.out
                rw [hdr] at this
                simp only [spanN, hP, if_true] at this
                omega
              have hmz3 : m + 1 ≤ z2 := by omega
              replace hmz2 := hid hmz2
              replace hy := hid hy
              replace hdr := hid hdr
              have hcl := rdigit_any y.toNat
              rw [hP] at hcl
              replace hcl := hid hcl
              replace hP := hid hP
              go_wp2_with (first
                | (go_at_call 77; refine ((hcl).out _).mono ?_; rintro e w' ⟨rfl, rfl⟩))
              go_roundg (l.length - (m + 1))
              case measure => omega
              case rel => exact ⟨m + 1, by first | rfl | go_num, by omega, hmz3, rfl, hmz2, hsq.out⟩
            | false =>
              obtain rfl : z2 = m := by
                have := hmz.out
                rw [hdr] at this
                simp only [spanN, hP] at this
                simpa using this.symm
              have q1 : decide (z2 < l.length) = true := by simpa using hmlt
              have q1e : ((z2 : Int) == (l.length : Int)) = false := by rw [beq_eq_false_iff_ne]; omega
              replace hdr := hid hdr
              have hcl := rdigit_any y.toNat
              rw [hP] at hcl
              replace hcl := hid hcl
              replace hP := hid hP
              obtain ⟨b3, o3, hbo3, hby3⟩ := byte_all hT.out hy
              cases hbo3
              replace hby3 := hid hby3
              replace hy := hid hy
              have hs := hsq.out
              have hyi : innerI y.toNat = false := by
                have := hi.out
                simpa only [holdsI, hy.out] using this
              have hci := rinner_any y
              rw [hyi] at hci
              replace hyi := hid hyi
              replace hci := hid hci
              go_wp2_with (first
                | (go_at_call 77; refine ((hcl).out _).mono ?_; rintro e w' ⟨rfl, rfl⟩)
                | ((with_reducible refine gd_st (ty := 3) ?_); refine wl_of rfl (hs.st0 0 rfl rfl (sc_of rfl) (v := .int .i64 5) rfl (by rfl) (Nat.le_of_ble_eq_true rfl) ?_); intro w hs; replace hs : St w0 [] [(tb, row 54 (Tok.cells ⟨5, [], p⟩)), (rb, row 54 (Tok.cells ⟨0, [], 0⟩))] w := hs; have hc := hby3.out _ _ hs)
                | (go_at_call 76; refine ((hci).out _).mono ?_; rintro e w' ⟨rfl, rfl⟩)
                | ((with_reducible refine gd_sl ?_); obtain ⟨sv', hv1, hv2⟩ := run_txt_slice (hT.out.now hs) (lo := p) (hi := z2) (by omega) (by omega) .i64 .i64; have hv3 := run_txt_string hv2; replace hv1 := hid hv1; replace hv3 := hid hv3; clear hv2; refine wl_of rfl (wp_of_run (ex_slc (by first | exact ev rfl | rfl) (by first | exact ev rfl | rfl) (by first | exact ev rfl | rfl) hv1.out) ?_))
                | ((with_reducible refine gd_cv ?_); refine wl_of rfl (wp_of_run (ex_cnv (by first | exact ev rfl | rfl) hv3.out) ?_))
                | ((with_reducible refine gd_st (ty := 9) ?_); refine wl_of rfl (hs.st0 0 rfl rfl (sc_of rfl) rfl (by rfl) (Nat.le_of_ble_eq_true rfl) ?_); intro w hs; replace hs : St w0 [] [(tb, row 54 (Tok.cells ⟨5, (l.drop p).take (z2 - p), p⟩)), (rb, row 54 (Tok.cells ⟨0, [], 0⟩))] w := hs)
                | ((with_reducible refine gd_ld (ty := 54) ?_); refine wl_of rfl (hs.lda 0 rfl rfl ag54 (vs := Tok.cells ⟨5, (l.drop p).take (z2 - p), p⟩) (Nat.le_of_eq rfl) rfl ?_))
                | ((with_reducible refine gd_st (ty := 54) ?_); refine wl_of rfl (hs.sta 1 rfl rfl ag54 (vs := Tok.cells ⟨5, (l.drop p).take (z2 - p), p⟩) (by first | exact ev rfl | rfl) rfl (tok_one _) (Nat.le_of_eq rfl) (splice_all rfl) ?_); intro w hs; rw [put_none]; simp only [List.set_cons_succ, List.set_cons_zero] at hs))
              refine bodyPost_ret (results48 (T := ⟨5, (l.drop p).take (z2 - p), p⟩) (hs.at 1 rfl) rfl rfl rfl) rfl ?_
              exact rtok_good (by omega) hs.void
          · have hze : z2 = l.length := by
              have h1 := spanN_le digitI (l.drop m)
              rw [List.length_drop] at h1
              have := hmz.out
              omega
            obtain rfl : z2 = m := by omega
            have q1 : decide (z2 < l.length) = false := by simpa using hmlt
            have q1e : ((z2 : Int) == (l.length : Int)) = true := by simp; omega
            replace hze := hid hze
            go_wp2_with (first
              | ((with_reducible refine gd_st (ty := 3) ?_); refine wl_of rfl (hs.st0 0 rfl rfl (sc_of rfl) (v := .int .i64 5) rfl (by rfl) (Nat.le_of_ble_eq_true rfl) ?_); intro w hs; replace hs : St w0 [] [(tb, row 54 (Tok.cells ⟨5, [], p⟩)), (rb, row 54 (Tok.cells ⟨0, [], 0⟩))] w := hs)
              | ((with_reducible refine gd_sl ?_); obtain ⟨sv', hv1, hv2⟩ := run_txt_slice (hT.out.now hs) (lo := p) (hi := z2) (by omega) (by omega) .i64 .i64; have hv3 := run_txt_string hv2; replace hv1 := hid hv1; replace hv3 := hid hv3; clear hv2; refine wl_of rfl (wp_of_run (ex_slc (by first | exact ev rfl | rfl) (by first | exact ev rfl | rfl) (by first | exact ev rfl | rfl) hv1.out) ?_))
              | ((with_reducible refine gd_cv ?_); refine wl_of rfl (wp_of_run (ex_cnv (by first | exact ev rfl | rfl) hv3.out) ?_))
              | ((with_reducible refine gd_st (ty := 9) ?_); refine wl_of rfl (hs.st0 0 rfl rfl (sc_of rfl) rfl (by rfl) (Nat.le_of_ble_eq_true rfl) ?_); intro w hs; replace hs : St w0 [] [(tb, row 54 (Tok.cells ⟨5, (l.drop p).take (z2 - p), p⟩)), (rb, row 54 (Tok.cells ⟨0, [], 0⟩))] w := hs)
              | ((with_reducible refine gd_ld (ty := 54) ?_); refine wl_of rfl (hs.lda 0 rfl rfl ag54 (vs := Tok.cells ⟨5, (l.drop p).take (z2 - p), p⟩) (Nat.le_of_eq rfl) rfl ?_))
              | ((with_reducible refine gd_st (ty := 54) ?_); refine wl_of rfl (hs.sta 1 rfl rfl ag54 (vs := Tok.cells ⟨5, (l.drop p).take (z2 - p), p⟩) (by first | exact ev rfl | rfl) rfl (tok_one _) (Nat.le_of_eq rfl) (splice_all rfl) ?_); intro w hs; rw [put_none]; simp only [List.set_cons_succ, List.set_cons_zero] at hs))
            refine bodyPost_ret (results48 (T := ⟨5, (l.drop p).take (z2 - p), p⟩) (hs.at 1 rfl) rfl rfl rfl) rfl ?_
            exact rtok_good (by omega) hs.void
    · have hze : z = l.length := by
        have h1 := spanN_le digitI (l.drop m)
        rw [List.length_drop] at h1
        have := hmz.out
        omega
      obtain rfl : z = m := by omega
      have q1 : decide (z < l.length) = false := by simpa using hmlt
      have q1e : ((z : Int) == (l.length : Int)) = true := by simp; omega
      exact absurd (nextI_lt hdot.out) (by omega)
set_option maxHeartbeats 4000000 in
set_option maxRecDepth 100000 in
theorem rtok_dec_bad_n {w0 : World} {v : Value} {l : List UInt8} {p : Nat} {x : UInt8} (hT : Txt w0 [] v l) (hl : l.length ≤ 1048576) (hx : l[p]? = some x) (hd : digitI x.toNat = true) (h48 : (x.toNat : Int) ≠ 48) {z : Nat} (hz : p + 1 + spanN digitI (l.drop (p + 1)) = z) (hdot : nextI l z 46 = true) {z2 : Nat} (hz2 : z + 1 + spanN digitI (l.drop (z + 1)) = z2) (h2 : z + 1 < z2) (hi : holdsI innerI l z2 = true) :
    Calls Try.prog 48 #[v, .int .i64 p] w0 (RTok w0 p (.error (z2 - p))) := by
  have hs := St.nothing w0
  obtain ⟨A, c, rfl⟩ := hT.bd
  have hlt : p < l.length := (List.getElem?_eq_some_iff.1 hx).1
  obtain ⟨b, o, rfl, hby⟩ := byte_all hT hx
  have hri := rinner_any x
  have hrd := rdigit_any x.toNat
  have h1 := dig_inner hd
  rw [h1] at hri
  rw [hd] at hrd
  have hzp : p + 1 ≤ z := by omega
  have hzl : z ≤ l.length := by rw [← hz]; exact span_at_le digitI (by omega)
  replace hz := hid hz
  clear h1
  replace hdot := hid hdot
  have hz2p : z + 1 ≤ z2 := by omega
  have hz2l : z2 ≤ l.length := by rw [← hz2]; exact span_at_le digitI (by have := nextI_lt hdot.out; omega)
  replace hz2 := hid hz2
  have qz2 : ((z2 : Int) == (z : Int) + 1) = false := by rw [beq_eq_false_iff_ne]; omega
  replace hi := hid hi
  have q40 : ((x.toNat : Int) == 40) = false := by exact dig_ne hd rfl
  have q41 : ((x.toNat : Int) == 41) = false := by exact dig_ne hd rfl
  have q124 : ((x.toNat : Int) == 124) = false := by exact dig_ne hd rfl
  have q34 : ((x.toNat : Int) == 34) = false := by exact dig_ne hd rfl
  have q58 : ((x.toNat : Int) == 58) = false := by exact dig_ne hd rfl
  have q48 : ((x.toNat : Int) == 48) = false := by simpa using h48
  replace hri := hid hri
  replace hrd := hid hrd
  replace hby := hid hby
  replace hT := hid hT
  replace hx := hid hx
  clear h48
  replace hd := hid hd
  go_enter Try.func48, Try.ntmps48
  go_upto_region 1 with (first
    | ((with_reducible refine gd_al ?_); refine wl_of rfl (hs.al zc54 ?_); intro rb w hrb hs))
  have hc := hby.out _ _ hs
  go_upto_region 4 with (first
    | ((with_reducible refine gd_bd ?_); refine wl_of rfl (wp_of_run (ex_build rfl (run_build54p _ _)) ?_))
    | ((with_reducible refine gd_al ?_); refine wl_of rfl (hs.al zc54 ?_); intro tb w htb hs)
    | ((with_reducible refine gd_st (ty := 54) ?_); refine wl_of rfl (hs.sta 0 rfl rfl ag54 (vs := Tok.cells ⟨0, [], p⟩) (by first | exact ev rfl | rfl) rfl (tok_one _) (Nat.le_of_eq rfl) (splice_all rfl) ?_); intro w hs; rw [put_none]; simp only [List.set_cons_zero] at hs))
  replace hs : St w0 [] [(tb, row 54 (Tok.cells ⟨0, [], p⟩)), (rb, row 54 (Tok.cells ⟨0, [], 0⟩))] w := hs
  clear hc
  go_wp2_with (first
    | (go_at_call 76; refine (hri.out _).mono ?_; rintro e w' ⟨rfl, rfl⟩)
    | (go_at_call 77; refine (hrd.out _).mono ?_; rintro e w' ⟨rfl, rfl⟩))
  go_loopg [9] (l.length - (p + 1)) (fun g iv wr => ∃ m : Nat, iv = .int .i64 m ∧ p + 1 ≤ m ∧ m ≤ z ∧ g = l.length - m ∧ Hid (m + spanN digitI (l.drop m) = z) ∧ St w0 [] [(tb, row 54 (Tok.cells ⟨0, [], p⟩)), (rb, row 54 (Tok.cells ⟨0, [], 0⟩))] wr)
  case atStart => exact ⟨p + 1, by first | rfl | go_num, Nat.le_refl _, hzp, rfl, hz, hs⟩
  case round =>
    clear hs
    obtain ⟨m, rfl, hm1, hm2, rfl, hmz, hs⟩ := hrel
    by_cases hmlt : m < l.length
    · obtain ⟨y, hy⟩ : ∃ y, l[m]? = some y := ⟨_, List.getElem?_eq_getElem hmlt⟩
      obtain ⟨b2, o2, hbo, hc⟩ := byte_at hT.out hs hy
      cases hbo
      have hdr := skip_cons hy
      have hsq := hid hs
      clear hs
      cases hP : digitI y.toNat with
      | true =>
        have hmz2 : m + 1 + spanN digitI (l.drop (m + 1)) = z := by
          have := hmz.out
          rw [hdr] at this
          simp only [spanN, hP, if_true] at this
          omega
        have hmz3 : m + 1 ≤ z := by omega
        replace hmz2 := hid hmz2
        replace hy := hid hy
        replace hdr := hid hdr
        have hcl := rdigit_any y.toNat
        rw [hP] at hcl
        replace hcl := hid hcl
        replace hP := hid hP
        go_wp2_with (first
          | (go_at_call 77; refine ((hcl).out _).mono ?_; rintro e w' ⟨rfl, rfl⟩))
        go_roundg (l.length - (m + 1))
        case measure => omega
        case rel => exact ⟨m + 1, by first | rfl | go_num, by omega, hmz3, rfl, hmz2, hsq.out⟩
      | false =>
        obtain rfl : z = m := by
          have := hmz.out
          rw [hdr] at this
          simp only [spanN, hP] at this
          simpa using this.symm
        have q1 : decide (z < l.length) = true := by simpa using hmlt
        have q1e : ((z : Int) == (l.length : Int)) = false := by rw [beq_eq_false_iff_ne]; omega
        replace hdr := hid hdr
        have hcl := rdigit_any y.toNat
        rw [hP] at hcl
        replace hcl := hid hcl
        replace hP := hid hP
        obtain ⟨b3, o3, hbo3, hby3⟩ := byte_all hT.out hy
        cases hbo3
        replace hby3 := hid hby3
        replace hy := hid hy
        have hs := hsq.out
        have e46 : (y.toNat : Int) = 46 := by
          have := hdot.out
          simp only [nextI, hy.out] at this
          simpa using this
        have q46 : ((y.toNat : Int) == 46) = true := by rw [e46]; rfl
        replace e46 := hid e46
        go_wp2_with (first
          | (go_at_call 77; refine ((hcl).out _).mono ?_; rintro e w' ⟨rfl, rfl⟩)
          | ((with_reducible refine gd_st (ty := 3) ?_); refine wl_of rfl (hs.st0 0 rfl rfl (sc_of rfl) (v := .int .i64 4) rfl (by rfl) (Nat.le_of_ble_eq_true rfl) ?_); intro w hs; replace hs : St w0 [] [(tb, row 54 (Tok.cells ⟨4, [], p⟩)), (rb, row 54 (Tok.cells ⟨0, [], 0⟩))] w := hs; have hc := hby3.out _ _ hs))
        clear hc q46 q1 q1e
        replace hcl := hid hcl
        go_loopg [9] (l.length - (z + 1)) (fun g iv wr => ∃ m : Nat, iv = .int .i64 m ∧ z + 1 ≤ m ∧ m ≤ z2 ∧ g = l.length - m ∧ Hid (m + spanN digitI (l.drop m) = z2) ∧ St w0 [] [(tb, row 54 (Tok.cells ⟨4, [], p⟩)), (rb, row 54 (Tok.cells ⟨0, [], 0⟩))] wr)
        case atStart => exact ⟨z + 1, by first | rfl | go_num, Nat.le_refl _, hz2p, rfl, hz2, hs⟩
        case round =>
          clear hs
          obtain ⟨m, rfl, hm1, hm2, rfl, hmz, hs⟩ := hrel
          by_cases hmlt : m < l.length
          · obtain ⟨y, hy⟩ : ∃ y, l[m]? = some y := ⟨_, List.getElem?_eq_getElem hmlt⟩
            obtain ⟨b2, o2, hbo, hc⟩ := byte_at hT.out hs hy
            cases hbo
            have hdr := skip_cons hy
            have hsq := hid hs
            clear hs
            cases hP : digitI y.toNat with
            | true =>
              have hmz2 : m + 1 + spanN digitI (l.drop (m + 1)) = z2 := by
                have := hmz.out
                rw [hdr] at this
                simp only [spanN, hP, if_true] at this
                omega
              have hmz3 : m + 1 ≤ z2 := by omega
              replace hmz2 := hid hmz2
              replace hy := hid hy
              replace hdr := hid hdr
              have hcl := rdigit_any y.toNat
              rw [hP] at hcl
              replace hcl := hid hcl
              replace hP := hid hP
              go_wp2_with (first
                | (go_at_call 77; refine ((hcl).out _).mono ?_; rintro e w' ⟨rfl, rfl⟩))
              go_roundg (l.length - (m + 1))
              case measure => omega
              case rel => exact ⟨m + 1, by first | rfl | go_num, by omega, hmz3, rfl, hmz2, hsq.out⟩
            | false =>
              obtain rfl : z2 = m := by
                have := hmz.out
                rw [hdr] at this
                simp only [spanN, hP] at this
                simpa using this.symm
              have q1 : decide (z2 < l.length) = true := by simpa using hmlt
              have q1e : ((z2 : Int) == (l.length : Int)) = false := by rw [beq_eq_false_iff_ne]; omega
              replace hdr := hid hdr
              have hcl := rdigit_any y.toNat
              rw [hP] at hcl
              replace hcl := hid hcl
              replace hP := hid hP
              obtain ⟨b3, o3, hbo3, hby3⟩ := byte_all hT.out hy
              cases hbo3
              replace hby3 := hid hby3
              replace hy := hid hy
              have hs := hsq.out
              have hyi : innerI y.toNat = true := by
                have := hi.out
                simpa only [holdsI, hy.out] using this
              have hci := rinner_any y
              rw [hyi] at hci
              replace hyi := hid hyi
              replace hci := hid hci
              go_wp2_with (first
                | (go_at_call 77; refine ((hcl).out _).mono ?_; rintro e w' ⟨rfl, rfl⟩)
                | ((with_reducible refine gd_st (ty := 3) ?_); refine wl_of rfl (hs.st0 0 rfl rfl (sc_of rfl) (v := .int .i64 5) rfl (by rfl) (Nat.le_of_ble_eq_true rfl) ?_); intro w hs; replace hs : St w0 [] [(tb, row 54 (Tok.cells ⟨5, [], p⟩)), (rb, row 54 (Tok.cells ⟨0, [], 0⟩))] w := hs; have hc := hby3.out _ _ hs)
                | (go_at_call 76; refine ((hci).out _).mono ?_; rintro e w' ⟨rfl, rfl⟩)
                | ((with_reducible refine gd_ld (ty := 54) ?_); refine wl_of rfl (hs.lda 0 rfl rfl ag54 (vs := Tok.cells ⟨5, [], p⟩) (Nat.le_of_eq rfl) rfl ?_))
                | ((with_reducible refine gd_st (ty := 54) ?_); refine wl_of rfl (hs.sta 1 rfl rfl ag54 (vs := Tok.cells ⟨5, [], p⟩) (by first | exact ev rfl | rfl) rfl (tok_one _) (Nat.le_of_eq rfl) (splice_all rfl) ?_); intro w hs; rw [put_none]; simp only [List.set_cons_succ, List.set_cons_zero] at hs))
              refine bodyPost_ret (results48 (T := ⟨5, [], p⟩) (hs.at 1 rfl) rfl rfl rfl) rfl ?_
              exact rtok_bad (T := ⟨5, [], p⟩) (by omega) hs.void
          · have hze : z2 = l.length := by
              have h1 := spanN_le digitI (l.drop m)
              rw [List.length_drop] at h1
              have := hmz.out
              omega
            obtain rfl : z2 = m := by omega
            have q1 : decide (z2 < l.length) = false := by simpa using hmlt
            have q1e : ((z2 : Int) == (l.length : Int)) = true := by simp; omega
            exact absurd (holdsI_lt hi.out) (by omega)
    · have hze : z = l.length := by
        have h1 := spanN_le digitI (l.drop m)
        rw [List.length_drop] at h1
        have := hmz.out
        omega
      obtain rfl : z = m := by omega
      have q1 : decide (z < l.length) = false := by simpa using hmlt
      have q1e : ((z : Int) == (l.length : Int)) = true := by simp; omega
      exact absurd (nextI_lt hdot.out) (by omega)
set_option maxHeartbeats 4000000 in
set_option maxRecDepth 100000 in
theorem rtok_dot_bad_z {w0 : World} {v : Value} {l : List UInt8} {p : Nat} {x : UInt8} (hT : Txt w0 [] v l) (hl : l.length ≤ 1048576) (hx : l[p]? = some x) (hk : (x.toNat : Int) = 48) {z : Nat} (hz : p + 1 + spanN digitI (l.drop (p + 1)) = z) (h0 : z = p + 1) (hdot : nextI l z 46 = true) {z2 : Nat} (hz2 : z + 1 + spanN digitI (l.drop (z + 1)) = z2) (h2 : z2 = z + 1) :
    Calls Try.prog 48 #[v, .int .i64 p] w0 (RTok w0 p (.error (z2 - p))) := by
  have hs := St.nothing w0
  obtain ⟨A, c, rfl⟩ := hT.bd
  have hlt : p < l.length := (List.getElem?_eq_some_iff.1 hx).1
  obtain ⟨b, o, rfl, hby⟩ := byte_all hT hx
  have hri := rinner_any x
  have hrd := rdigit_any x.toNat
  have hd : digitI x.toNat = true := by rw [hk]; rfl
  have h1 := dig_inner hd
  rw [h1] at hri
  rw [hd] at hrd
  have hzp : p + 1 ≤ z := by omega
  have hzl : z ≤ l.length := by rw [← hz]; exact span_at_le digitI (by omega)
  replace hz := hid hz
  clear h1
  have qz : decide ((p : Int) + 1 < (z : Int)) = false := by simp; omega
  replace hdot := hid hdot
  have hz2p : z + 1 ≤ z2 := by omega
  have hz2l : z2 ≤ l.length := by rw [← hz2]; exact span_at_le digitI (by have := nextI_lt hdot.out; omega)
  replace hz2 := hid hz2
  have qz2 : ((z2 : Int) == (z : Int) + 1) = true := by simp; omega
  have q40 : ((x.toNat : Int) == 40) = false := by exact dig_ne hd rfl
  have q41 : ((x.toNat : Int) == 41) = false := by exact dig_ne hd rfl
  have q124 : ((x.toNat : Int) == 124) = false := by exact dig_ne hd rfl
  have q34 : ((x.toNat : Int) == 34) = false := by exact dig_ne hd rfl
  have q58 : ((x.toNat : Int) == 58) = false := by exact dig_ne hd rfl
  have q48 : ((x.toNat : Int) == 48) = true := by simpa using hk
  replace hri := hid hri
  replace hrd := hid hrd
  replace hby := hid hby
  replace hT := hid hT
  replace hx := hid hx
  replace hk := hid hk
  replace h0 := hid h0
  replace hd := hid hd
  replace h2 := hid h2
  go_enter Try.func48, Try.ntmps48
  go_upto_region 1 with (first
    | ((with_reducible refine gd_al ?_); refine wl_of rfl (hs.al zc54 ?_); intro rb w hrb hs))
  have hc := hby.out _ _ hs
  go_upto_region 4 with (first
    | ((with_reducible refine gd_bd ?_); refine wl_of rfl (wp_of_run (ex_build rfl (run_build54p _ _)) ?_))
    | ((with_reducible refine gd_al ?_); refine wl_of rfl (hs.al zc54 ?_); intro tb w htb hs)
    | ((with_reducible refine gd_st (ty := 54) ?_); refine wl_of rfl (hs.sta 0 rfl rfl ag54 (vs := Tok.cells ⟨0, [], p⟩) (by first | exact ev rfl | rfl) rfl (tok_one _) (Nat.le_of_eq rfl) (splice_all rfl) ?_); intro w hs; rw [put_none]; simp only [List.set_cons_zero] at hs))
  replace hs : St w0 [] [(tb, row 54 (Tok.cells ⟨0, [], p⟩)), (rb, row 54 (Tok.cells ⟨0, [], 0⟩))] w := hs
  clear hc
  go_wp2_with (first
    | (go_at_call 76; refine (hri.out _).mono ?_; rintro e w' ⟨rfl, rfl⟩)
    | (go_at_call 77; refine (hrd.out _).mono ?_; rintro e w' ⟨rfl, rfl⟩))
  go_loopg [9] (l.length - (p + 1)) (fun g iv wr => ∃ m : Nat, iv = .int .i64 m ∧ p + 1 ≤ m ∧ m ≤ z ∧ g = l.length - m ∧ Hid (m + spanN digitI (l.drop m) = z) ∧ St w0 [] [(tb, row 54 (Tok.cells ⟨0, [], p⟩)), (rb, row 54 (Tok.cells ⟨0, [], 0⟩))] wr)
  case atStart => exact ⟨p + 1, by first | rfl | go_num, Nat.le_refl _, hzp, rfl, hz, hs⟩
  case round =>
    clear hs
    obtain ⟨m, rfl, hm1, hm2, rfl, hmz, hs⟩ := hrel
    by_cases hmlt : m < l.length
    · obtain ⟨y, hy⟩ : ∃ y, l[m]? = some y := ⟨_, List.getElem?_eq_getElem hmlt⟩
      obtain ⟨b2, o2, hbo, hc⟩ := byte_at hT.out hs hy
      cases hbo
      have hdr := skip_cons hy
      have hsq := hid hs
      clear hs
      cases hP : digitI y.toNat with
      | true =>
        have hmz2 : m + 1 + spanN digitI (l.drop (m + 1)) = z := by
          have := hmz.out
          rw [hdr] at this
          simp only [spanN, hP, if_true] at this
          omega
        have hmz3 : m + 1 ≤ z := by omega
        replace hmz2 := hid hmz2
        replace hy := hid hy
        replace hdr := hid hdr
        have hcl := rdigit_any y.toNat
        rw [hP] at hcl
        replace hcl := hid hcl
        replace hP := hid hP
        go_wp2_with (first
          | (go_at_call 77; refine ((hcl).out _).mono ?_; rintro e w' ⟨rfl, rfl⟩))
        go_roundg (l.length - (m + 1))
        case measure => omega
        case rel => exact ⟨m + 1, by first | rfl | go_num, by omega, hmz3, rfl, hmz2, hsq.out⟩
      | false =>
        obtain rfl : z = m := by
          have := hmz.out
          rw [hdr] at this
          simp only [spanN, hP] at this
          simpa using this.symm
        have q1 : decide (z < l.length) = true := by simpa using hmlt
        have q1e : ((z : Int) == (l.length : Int)) = false := by rw [beq_eq_false_iff_ne]; omega
        replace hdr := hid hdr
        have hcl := rdigit_any y.toNat
        rw [hP] at hcl
        replace hcl := hid hcl
        replace hP := hid hP
        obtain ⟨b3, o3, hbo3, hby3⟩ := byte_all hT.out hy
        cases hbo3
        replace hby3 := hid hby3
        replace hy := hid hy
        have hs := hsq.out
        have e46 : (y.toNat : Int) = 46 := by
          have := hdot.out
          simp only [nextI, hy.out] at this
          simpa using this
        have q46 : ((y.toNat : Int) == 46) = true := by rw [e46]; rfl
        replace e46 := hid e46
        go_wp2_with (first
          | (go_at_call 77; refine ((hcl).out _).mono ?_; rintro e w' ⟨rfl, rfl⟩)
          | ((with_reducible refine gd_st (ty := 3) ?_); refine wl_of rfl (hs.st0 0 rfl rfl (sc_of rfl) (v := .int .i64 4) rfl (by rfl) (Nat.le_of_ble_eq_true rfl) ?_); intro w hs; replace hs : St w0 [] [(tb, row 54 (Tok.cells ⟨4, [], p⟩)), (rb, row 54 (Tok.cells ⟨0, [], 0⟩))] w := hs; have hc := hby3.out _ _ hs))
        clear hc q46 q1 q1e
        replace hcl := hid hcl
        go_loopg [9] (l.length - (z + 1)) (fun g iv wr => ∃ m : Nat, iv = .int .i64 m ∧ z + 1 ≤ m ∧ m ≤ z2 ∧ g = l.length - m ∧ Hid (m + spanN digitI (l.drop m) = z2) ∧ St w0 [] [(tb, row 54 (Tok.cells ⟨4, [], p⟩)), (rb, row 54 (Tok.cells ⟨0, [], 0⟩))] wr)
        case atStart => exact ⟨z + 1, by first | rfl | go_num, Nat.le_refl _, hz2p, rfl, hz2, hs⟩
        case round =>
          clear hs
          obtain ⟨m, rfl, hm1, hm2, rfl, hmz, hs⟩ := hrel
          by_cases hmlt : m < l.length
          · obtain ⟨y, hy⟩ : ∃ y, l[m]? = some y := ⟨_, List.getElem?_eq_getElem hmlt⟩
            obtain ⟨b2, o2, hbo, hc⟩ := byte_at hT.out hs hy
            cases hbo
            have hdr := skip_cons hy
            have hsq := hid hs
            clear hs
            cases hP : digitI y.toNat with
            | true =>
              have hmz2 : m + 1 + spanN digitI (l.drop (m + 1)) = z2 := by
                have := hmz.out
                rw [hdr] at this
                simp only [spanN, hP, if_true] at this
                omega
              have hmz3 : m + 1 ≤ z2 := by omega
              replace hmz2 := hid hmz2
              replace hy := hid hy
              replace hdr := hid hdr
              have hcl := rdigit_any y.toNat
              rw [hP] at hcl
              replace hcl := hid hcl
              replace hP := hid hP
              go_wp2_with (first
                | (go_at_call 77; refine ((hcl).out _).mono ?_; rintro e w' ⟨rfl, rfl⟩))
              go_roundg (l.length - (m + 1))
              case measure => omega
              case rel => exact ⟨m + 1, by first | rfl | go_num, by omega, hmz3, rfl, hmz2, hsq.out⟩
            | false =>
              obtain rfl : z2 = m := by
                have := hmz.out
                rw [hdr] at this
                simp only [spanN, hP] at this
                simpa using this.symm
              have q1 : decide (z2 < l.length) = true := by simpa using hmlt
              have q1e : ((z2 : Int) == (l.length : Int)) = false := by rw [beq_eq_false_iff_ne]; omega
              replace hdr := hid hdr
              have hcl := rdigit_any y.toNat
              rw [hP] at hcl
              replace hcl := hid hcl
              replace hP := hid hP
              obtain ⟨b3, o3, hbo3, hby3⟩ := byte_all hT.out hy
              cases hbo3
              replace hby3 := hid hby3
              replace hy := hid hy
              have hs := hsq.out
              go_wp2_with (first
                | (go_at_call 77; refine ((hcl).out _).mono ?_; rintro e w' ⟨rfl, rfl⟩)
                | ((with_reducible refine gd_ld (ty := 54) ?_); refine wl_of rfl (hs.lda 0 rfl rfl ag54 (vs := Tok.cells ⟨4, [], p⟩) (Nat.le_of_eq rfl) rfl ?_))
                | ((with_reducible refine gd_st (ty := 54) ?_); refine wl_of rfl (hs.sta 1 rfl rfl ag54 (vs := Tok.cells ⟨4, [], p⟩) (by first | exact ev rfl | rfl) rfl (tok_one _) (Nat.le_of_eq rfl) (splice_all rfl) ?_); intro w hs; rw [put_none]; simp only [List.set_cons_succ, List.set_cons_zero] at hs))
              refine bodyPost_ret (results48 (T := ⟨4, [], p⟩) (hs.at 1 rfl) rfl rfl rfl) rfl ?_
              exact rtok_bad (T := ⟨4, [], p⟩) (by have := h2.out; omega) hs.void
          · have hze : z2 = l.length := by
              have h1 := spanN_le digitI (l.drop m)
              rw [List.length_drop] at h1
              have := hmz.out
              omega
            obtain rfl : z2 = m := by omega
            have q1 : decide (z2 < l.length) = false := by simpa using hmlt
            have q1e : ((z2 : Int) == (l.length : Int)) = true := by simp; omega
            replace hze := hid hze
            go_wp2_with (first
              | ((with_reducible refine gd_ld (ty := 54) ?_); refine wl_of rfl (hs.lda 0 rfl rfl ag54 (vs := Tok.cells ⟨4, [], p⟩) (Nat.le_of_eq rfl) rfl ?_))
              | ((with_reducible refine gd_st (ty := 54) ?_); refine wl_of rfl (hs.sta 1 rfl rfl ag54 (vs := Tok.cells ⟨4, [], p⟩) (by first | exact ev rfl | rfl) rfl (tok_one _) (Nat.le_of_eq rfl) (splice_all rfl) ?_); intro w hs; rw [put_none]; simp only [List.set_cons_succ, List.set_cons_zero] at hs))
            refine bodyPost_ret (results48 (T := ⟨4, [], p⟩) (hs.at 1 rfl) rfl rfl rfl) rfl ?_
            exact rtok_bad (T := ⟨4, [], p⟩) (by have := h2.out; omega) hs.void
    · have hze : z = l.length := by
        have h1 := spanN_le digitI (l.drop m)
        rw [List.length_drop] at h1
        have := hmz.out
        omega
      obtain rfl : z = m := by omega
      have q1 : decide (z < l.length) = false := by simpa using hmlt
      have q1e : ((z : Int) == (l.length : Int)) = true := by simp; omega
      exact absurd (nextI_lt hdot.out) (by omega)
set_option maxHeartbeats 4000000 in
set_option maxRecDepth 100000 in
theorem rtok_dec_ok_z {w0 : World} {v : Value} {l : List UInt8} {p : Nat} {x : UInt8} (hT : Txt w0 [] v l) (hl : l.length ≤ 1048576) (hx : l[p]? = some x) (hk : (x.toNat : Int) = 48) {z : Nat} (hz : p + 1 + spanN digitI (l.drop (p + 1)) = z) (h0 : z = p + 1) (hdot : nextI l z 46 = true) {z2 : Nat} (hz2 : z + 1 + spanN digitI (l.drop (z + 1)) = z2) (h2 : z + 1 < z2) (hi : holdsI innerI l z2 = false) :
    Calls Try.prog 48 #[v, .int .i64 p] w0 (RTok w0 p (.ok (5, (l.drop p).take (z2 - p), z2 - p))) := by
  have hs := St.nothing w0
  obtain ⟨A, c, rfl⟩ := hT.bd
  have hlt : p < l.length := (List.getElem?_eq_some_iff.1 hx).1
  obtain ⟨b, o, rfl, hby⟩ := byte_all hT hx
  have hri := rinner_any x
  have hrd := rdigit_any x.toNat
  have hd : digitI x.toNat = true := by rw [hk]; rfl
  have h1 := dig_inner hd
  rw [h1] at hri
  rw [hd] at hrd
  have hzp : p + 1 ≤ z := by omega
  have hzl : z ≤ l.length := by rw [← hz]; exact span_at_le digitI (by omega)
  replace hz := hid hz
  clear h1
  have qz : decide ((p : Int) + 1 < (z : Int)) = false := by simp; omega
  replace hdot := hid hdot
  have hz2p : z + 1 ≤ z2 := by omega
  have hz2l : z2 ≤ l.length := by rw [← hz2]; exact span_at_le digitI (by have := nextI_lt hdot.out; omega)
  replace hz2 := hid hz2
  have qz2 : ((z2 : Int) == (z : Int) + 1) = false := by rw [beq_eq_false_iff_ne]; omega
  replace hi := hid hi
  have q40 : ((x.toNat : Int) == 40) = false := by exact dig_ne hd rfl
  have q41 : ((x.toNat : Int) == 41) = false := by exact dig_ne hd rfl
  have q124 : ((x.toNat : Int) == 124) = false := by exact dig_ne hd rfl
  have q34 : ((x.toNat : Int) == 34) = false := by exact dig_ne hd rfl
  have q58 : ((x.toNat : Int) == 58) = false := by exact dig_ne hd rfl
  have q48 : ((x.toNat : Int) == 48) = true := by simpa using hk
  replace hri := hid hri
  replace hrd := hid hrd
  replace hby := hid hby
  replace hT := hid hT
  replace hx := hid hx
  replace hk := hid hk
  replace h0 := hid h0
  replace hd := hid hd
  go_enter Try.func48, Try.ntmps48
  go_upto_region 1 with (first
    | ((with_reducible refine gd_al ?_); refine wl_of rfl (hs.al zc54 ?_); intro rb w hrb hs))
  have hc := hby.out _ _ hs
  go_upto_region 4 with (first
    | ((with_reducible refine gd_bd ?_); refine wl_of rfl (wp_of_run (ex_build rfl (run_build54p _ _)) ?_))
    | ((with_reducible refine gd_al ?_); refine wl_of rfl (hs.al zc54 ?_); intro tb w htb hs)
    | ((with_reducible refine gd_st (ty := 54) ?_); refine wl_of rfl (hs.sta 0 rfl rfl ag54 (vs := Tok.cells ⟨0, [], p⟩) (by first | exact ev rfl | rfl) rfl (tok_one _) (Nat.le_of_eq rfl) (splice_all rfl) ?_); intro w hs; rw [put_none]; simp only [List.set_cons_zero] at hs))
  replace hs : St w0 [] [(tb, row 54 (Tok.cells ⟨0, [], p⟩)), (rb, row 54 (Tok.cells ⟨0, [], 0⟩))] w := hs
  clear hc
  go_wp2_with (first
    | (go_at_call 76; refine (hri.out _).mono ?_; rintro e w' ⟨rfl, rfl⟩)
    | (go_at_call 77; refine (hrd.out _).mono ?_; rintro e w' ⟨rfl, rfl⟩))
  go_loopg [9] (l.length - (p + 1)) (fun g iv wr => ∃ m : Nat, iv = .int .i64 m ∧ p + 1 ≤ m ∧ m ≤ z ∧ g = l.length - m ∧ Hid (m + spanN digitI (l.drop m) = z) ∧ St w0 [] [(tb, row 54 (Tok.cells ⟨0, [], p⟩)), (rb, row 54 (Tok.cells ⟨0, [], 0⟩))] wr)
  case atStart => exact ⟨p + 1, by first | rfl | go_num, Nat.le_refl _, hzp, rfl, hz, hs⟩
  case round =>
    clear hs
    obtain ⟨m, rfl, hm1, hm2, rfl, hmz, hs⟩ := hrel
    by_cases hmlt : m < l.length
    · obtain ⟨y, hy⟩ : ∃ y, l[m]? = some y := ⟨_, List.getElem?_eq_getElem hmlt⟩
      obtain ⟨b2, o2, hbo, hc⟩ := byte_at hT.out hs hy
      cases hbo
      have hdr := skip_cons hy
      have hsq := hid hs
      clear hs
      cases hP : digitI y.toNat with
      | true =>
        have hmz2 : m + 1 + spanN digitI (l.drop (m + 1)) = z := by
          have := hmz.out
          rw [hdr] at this
          simp only [spanN, hP, if_true] at this
          omega
        have hmz3 : m + 1 ≤ z := by omega
        replace hmz2 := hid hmz2
        replace hy := hid hy
        replace hdr := hid hdr
        have hcl := rdigit_any y.toNat
        rw [hP] at hcl
        replace hcl := hid hcl
        replace hP := hid hP
        go_wp2_with (first
          | (go_at_call 77; refine ((hcl).out _).mono ?_; rintro e w' ⟨rfl, rfl⟩))
        go_roundg (l.length - (m + 1))
        case measure => omega
        case rel => exact ⟨m + 1, by first | rfl | go_num, by omega, hmz3, rfl, hmz2, hsq.out⟩
      | false =>
        obtain rfl : z = m := by
          have := hmz.out
          rw [hdr] at this
          simp only [spanN, hP] at this
          simpa using this.symm
        have q1 : decide (z < l.length) = true := by simpa using hmlt
        have q1e : ((z : Int) == (l.length : Int)) = false := by rw [beq_eq_false_iff_ne]; omega
        replace hdr := hid hdr
        have hcl := rdigit_any y.toNat
        rw [hP] at hcl
        replace hcl := hid hcl
        replace hP := hid hP
        obtain ⟨b3, o3, hbo3, hby3⟩ := byte_all hT.out hy
        cases hbo3
        replace hby3 := hid hby3
        replace hy := hid hy
        have hs := hsq.out
        have e46 : (y.toNat : Int) = 46 := by
          have := hdot.out
          simp only [nextI, hy.out] at this
          simpa using this
        have q46 : ((y.toNat : Int) == 46) = true := by rw [e46]; rfl
        replace e46 := hid e46
        go_wp2_with (first
          | (go_at_call 77; refine ((hcl).out _).mono ?_; rintro e w' ⟨rfl, rfl⟩)
          | ((with_reducible refine gd_st (ty := 3) ?_); refine wl_of rfl (hs.st0 0 rfl rfl (sc_of rfl) (v := .int .i64 4) rfl (by rfl) (Nat.le_of_ble_eq_true rfl) ?_); intro w hs; replace hs : St w0 [] [(tb, row 54 (Tok.cells ⟨4, [], p⟩)), (rb, row 54 (Tok.cells ⟨0, [], 0⟩))] w := hs; have hc := hby3.out _ _ hs))
        clear hc q46 q1 q1e
        replace hcl := hid hcl
        go_loopg [9] (l.length - (z + 1)) (fun g iv wr => ∃ m : Nat, iv = .int .i64 m ∧ z + 1 ≤ m ∧ m ≤ z2 ∧ g = l.length - m ∧ Hid (m + spanN digitI (l.drop m) = z2) ∧ St w0 [] [(tb, row 54 (Tok.cells ⟨4, [], p⟩)), (rb, row 54 (Tok.cells ⟨0, [], 0⟩))] wr)
        case atStart => exact ⟨z + 1, by first | rfl | go_num, Nat.le_refl _, hz2p, rfl, hz2, hs⟩
        case round =>
          clear hs
          obtain ⟨m, rfl, hm1, hm2, rfl, hmz, hs⟩ := hrel
          by_cases hmlt : m < l.length
          · obtain ⟨y, hy⟩ : ∃ y, l[m]? = some y := ⟨_, List.getElem?_eq_getElem hmlt⟩
            obtain ⟨b2, o2, hbo, hc⟩ := byte_at hT.out hs hy
            cases hbo
            have hdr := skip_cons hy
            have hsq := hid hs
            clear hs
            cases hP : digitI y.toNat with
            | true =>
              have hmz2 : m + 1 + spanN digitI (l.drop (m + 1)) = z2 := by
                have := hmz.out
                rw [hdr] at this
                simp only [spanN, hP, if_true] at this
                omega
              have hmz3 : m + 1 ≤ z2 := by omega
              replace hmz2 := hid hmz2
              replace hy := hid hy
              replace hdr := hid hdr
              have hcl := rdigit_any y.toNat
              rw [hP] at hcl
              replace hcl := hid hcl
              replace hP := hid hP
              go_wp2_with (first
                | (go_at_call 77; refine ((hcl).out _).mono ?_; rintro e w' ⟨rfl, rfl⟩))
              go_roundg (l.length - (m + 1))
              case measure => omega
              case rel => exact ⟨m + 1, by first | rfl | go_num, by omega, hmz3, rfl, hmz2, hsq.out⟩
            | false =>
              obtain rfl : z2 = m := by
                have := hmz.out
                rw [hdr] at this
                simp only [spanN, hP] at this
                simpa using this.symm
              have q1 : decide (z2 < l.length) = true := by simpa using hmlt
              have q1e : ((z2 : Int) == (l.length : Int)) = false := by rw [beq_eq_false_iff_ne]; omega
              replace hdr := hid hdr
              have hcl := rdigit_any y.toNat
              rw [hP] at hcl
              replace hcl := hid hcl
              replace hP := hid hP
              obtain ⟨b3, o3, hbo3, hby3⟩ := byte_all hT.out hy
              cases hbo3
              replace hby3 := hid hby3
              replace hy := hid hy
              have hs := hsq.out
              have hyi : innerI y.toNat = false := by
                have := hi.out
                simpa only [holdsI, hy.out] using this
              have hci := rinner_any y
              rw [hyi] at hci
              replace hyi := hid hyi
              replace hci := hid hci
              go_wp2_with (first
                | (go_at_call 77; refine ((hcl).out _).mono ?_; rintro e w' ⟨rfl, rfl⟩)
                | ((with_reducible refine gd_st (ty := 3) ?_); refine wl_of rfl (hs.st0 0 rfl rfl (sc_of rfl) (v := .int .i64 5) rfl (by rfl) (Nat.le_of_ble_eq_true rfl) ?_); intro w hs; replace hs : St w0 [] [(tb, row 54 (Tok.cells ⟨5, [], p⟩)), (rb, row 54 (Tok.cells ⟨0, [], 0⟩))] w := hs; have hc := hby3.out _ _ hs)
                | (go_at_call 76; refine ((hci).out _).mono ?_; rintro e w' ⟨rfl, rfl⟩)
                | ((with_reducible refine gd_sl ?_); obtain ⟨sv', hv1, hv2⟩ := run_txt_slice (hT.out.now hs) (lo := p) (hi := z2) (by omega) (by omega) .i64 .i64; have hv3 := run_txt_string hv2; replace hv1 := hid hv1; replace hv3 := hid hv3; clear hv2; refine wl_of rfl (wp_of_run (ex_slc (by first | exact ev rfl | rfl) (by first | exact ev rfl | rfl) (by first | exact ev rfl | rfl) hv1.out) ?_))
                | ((with_reducible refine gd_cv ?_); refine wl_of rfl (wp_of_run (ex_cnv (by first | exact ev rfl | rfl) hv3.out) ?_))
                | ((with_reducible refine gd_st (ty := 9) ?_); refine wl_of rfl (hs.st0 0 rfl rfl (sc_of rfl) rfl (by rfl) (Nat.le_of_ble_eq_true rfl) ?_); intro w hs; replace hs : St w0 [] [(tb, row 54 (Tok.cells ⟨5, (l.drop p).take (z2 - p), p⟩)), (rb, row 54 (Tok.cells ⟨0, [], 0⟩))] w := hs)
                | ((with_reducible refine gd_ld (ty := 54) ?_); refine wl_of rfl (hs.lda 0 rfl rfl ag54 (vs := Tok.cells ⟨5, (l.drop p).take (z2 - p), p⟩) (Nat.le_of_eq rfl) rfl ?_))
                | ((with_reducible refine gd_st (ty := 54) ?_); refine wl_of rfl (hs.sta 1 rfl rfl ag54 (vs := Tok.cells ⟨5, (l.drop p).take (z2 - p), p⟩) (by first | exact ev rfl | rfl) rfl (tok_one _) (Nat.le_of_eq rfl) (splice_all rfl) ?_); intro w hs; rw [put_none]; simp only [List.set_cons_succ, List.set_cons_zero] at hs))
              refine bodyPost_ret (results48 (T := ⟨5, (l.drop p).take (z2 - p), p⟩) (hs.at 1 rfl) rfl rfl rfl) rfl ?_
              exact rtok_good (by omega) hs.void
          · have hze : z2 = l.length := by
              have h1 := spanN_le digitI (l.drop m)
              rw [List.length_drop] at h1
              have := hmz.out
              omega
            obtain rfl : z2 = m := by omega
            have q1 : decide (z2 < l.length) = false := by simpa using hmlt
            have q1e : ((z2 : Int) == (l.length : Int)) = true := by simp; omega
            replace hze := hid hze
            go_wp2_with (first
              | ((with_reducible refine gd_st (ty := 3) ?_); refine wl_of rfl (hs.st0 0 rfl rfl (sc_of rfl) (v := .int .i64 5) rfl (by rfl) (Nat.le_of_ble_eq_true rfl) ?_); intro w hs; replace hs : St w0 [] [(tb, row 54 (Tok.cells ⟨5, [], p⟩)), (rb, row 54 (Tok.cells ⟨0, [], 0⟩))] w := hs)
              | ((with_reducible refine gd_sl ?_); obtain ⟨sv', hv1, hv2⟩ := run_txt_slice (hT.out.now hs) (lo := p) (hi := z2) (by omega) (by omega) .i64 .i64; have hv3 := run_txt_string hv2; replace hv1 := hid hv1; replace hv3 := hid hv3; clear hv2; refine wl_of rfl (wp_of_run (ex_slc (by first | exact ev rfl | rfl) (by first | exact ev rfl | rfl) (by first | exact ev rfl | rfl) hv1.out) ?_))
              | ((with_reducible refine gd_cv ?_); refine wl_of rfl (wp_of_run (ex_cnv (by first | exact ev rfl | rfl) hv3.out) ?_))
              | ((with_reducible refine gd_st (ty := 9) ?_); refine wl_of rfl (hs.st0 0 rfl rfl (sc_of rfl) rfl (by rfl) (Nat.le_of_ble_eq_true rfl) ?_); intro w hs; replace hs : St w0 [] [(tb, row 54 (Tok.cells ⟨5, (l.drop p).take (z2 - p), p⟩)), (rb, row 54 (Tok.cells ⟨0, [], 0⟩))] w := hs)
              | ((with_reducible refine gd_ld (ty := 54) ?_); refine wl_of rfl (hs.lda 0 rfl rfl ag54 (vs := Tok.cells ⟨5, (l.drop p).take (z2 - p), p⟩) (Nat.le_of_eq rfl) rfl ?_))
              | ((with_reducible refine gd_st (ty := 54) ?_); refine wl_of rfl (hs.sta 1 rfl rfl ag54 (vs := Tok.cells ⟨5, (l.drop p).take (z2 - p), p⟩) (by first | exact ev rfl | rfl) rfl (tok_one _) (Nat.le_of_eq rfl) (splice_all rfl) ?_); intro w hs; rw [put_none]; simp only [List.set_cons_succ, List.set_cons_zero] at hs))
            refine bodyPost_ret (results48 (T := ⟨5, (l.drop p).take (z2 - p), p⟩) (hs.at 1 rfl) rfl rfl rfl) rfl ?_
            exact rtok_good (by omega) hs.void
    · have hze : z = l.length := by
        have h1 := spanN_le digitI (l.drop m)
        rw [List.length_drop] at h1
        have := hmz.out
        omega
      obtain rfl : z = m := by omega
      have q1 : decide (z < l.length) = false := by simpa using hmlt
      have q1e : ((z : Int) == (l.length : Int)) = true := by simp; omega
      exact absurd (nextI_lt hdot.out) (by omega)
set_option maxHeartbeats 4000000 in
set_option maxRecDepth 100000 in
theorem rtok_dec_bad_z {w0 : World} {v : Value} {l : List UInt8} {p : Nat} {x : UInt8} (hT : Txt w0 [] v l) (hl : l.length ≤ 1048576) (hx : l[p]? = some x) (hk : (x.toNat : Int) = 48) {z : Nat} (hz : p + 1 + spanN digitI (l.drop (p + 1)) = z) (h0 : z = p + 1) (hdot : nextI l z 46 = true) {z2 : Nat} (hz2 : z + 1 + spanN digitI (l.drop (z + 1)) = z2) (h2 : z + 1 < z2) (hi : holdsI innerI l z2 = true) :
    Calls Try.prog 48 #[v, .int .i64 p] w0 (RTok w0 p (.error (z2 - p))) := by
  have hs := St.nothing w0
  obtain ⟨A, c, rfl⟩ := hT.bd
  have hlt : p < l.length := (List.getElem?_eq_some_iff.1 hx).1
  obtain ⟨b, o, rfl, hby⟩ := byte_all hT hx
  have hri := rinner_any x
  have hrd := rdigit_any x.toNat
  have hd : digitI x.toNat = true := by rw [hk]; rfl
  have h1 := dig_inner hd
  rw [h1] at hri
  rw [hd] at hrd
  have hzp : p + 1 ≤ z := by omega
  have hzl : z ≤ l.length := by rw [← hz]; exact span_at_le digitI (by omega)
  replace hz := hid hz
  clear h1
  have qz : decide ((p : Int) + 1 < (z : Int)) = false := by simp; omega
  replace hdot := hid hdot
  have hz2p : z + 1 ≤ z2 := by omega
  have hz2l : z2 ≤ l.length := by rw [← hz2]; exact span_at_le digitI (by have := nextI_lt hdot.out; omega)
  replace hz2 := hid hz2
  have qz2 : ((z2 : Int) == (z : Int) + 1) = false := by rw [beq_eq_false_iff_ne]; omega
  replace hi := hid hi
  have q40 : ((x.toNat : Int) == 40) = false := by exact dig_ne hd rfl
  have q41 : ((x.toNat : Int) == 41) = false := by exact dig_ne hd rfl
  have q124 : ((x.toNat : Int) == 124) = false := by exact dig_ne hd rfl
  have q34 : ((x.toNat : Int) == 34) = false := by exact dig_ne hd rfl
  have q58 : ((x.toNat : Int) == 58) = false := by exact dig_ne hd rfl
  have q48 : ((x.toNat : Int) == 48) = true := by simpa using hk
  replace hri := hid hri
  replace hrd := hid hrd
  replace hby := hid hby
  replace hT := hid hT
  replace hx := hid hx
  replace hk := hid hk
  replace h0 := hid h0
  replace hd := hid hd
  go_enter Try.func48, Try.ntmps48
  go_upto_region 1 with (first
    | ((with_reducible refine gd_al ?_); refine wl_of rfl (hs.al zc54 ?_); intro rb w hrb hs))
  have hc := hby.out _ _ hs
  go_upto_region 4 with (first
    | ((with_reducible refine gd_bd ?_); refine wl_of rfl (wp_of_run (ex_build rfl (run_build54p _ _)) ?_))
    | ((with_reducible refine gd_al ?_); refine wl_of rfl (hs.al zc54 ?_); intro tb w htb hs)
    | ((with_reducible refine gd_st (ty := 54) ?_); refine wl_of rfl (hs.sta 0 rfl rfl ag54 (vs := Tok.cells ⟨0, [], p⟩) (by first | exact ev rfl | rfl) rfl (tok_one _) (Nat.le_of_eq rfl) (splice_all rfl) ?_); intro w hs; rw [put_none]; simp only [List.set_cons_zero] at hs))
  replace hs : St w0 [] [(tb, row 54 (Tok.cells ⟨0, [], p⟩)), (rb, row 54 (Tok.cells ⟨0, [], 0⟩))] w := hs
  clear hc
  go_wp2_with (first
    | (go_at_call 76; refine (hri.out _).mono ?_; rintro e w' ⟨rfl, rfl⟩)
    | (go_at_call 77; refine (hrd.out _).mono ?_; rintro e w' ⟨rfl, rfl⟩))
  go_loopg [9] (l.length - (p + 1)) (fun g iv wr => ∃ m : Nat, iv = .int .i64 m ∧ p + 1 ≤ m ∧ m ≤ z ∧ g = l.length - m ∧ Hid (m + spanN digitI (l.drop m) = z) ∧ St w0 [] [(tb, row 54 (Tok.cells ⟨0, [], p⟩)), (rb, row 54 (Tok.cells ⟨0, [], 0⟩))] wr)
  case atStart => exact ⟨p + 1, by first | rfl | go_num, Nat.le_refl _, hzp, rfl, hz, hs⟩
  case round =>
    clear hs
    obtain ⟨m, rfl, hm1, hm2, rfl, hmz, hs⟩ := hrel
    by_cases hmlt : m < l.length
    · obtain ⟨y, hy⟩ : ∃ y, l[m]? = some y := ⟨_, List.getElem?_eq_getElem hmlt⟩
      obtain ⟨b2, o2, hbo, hc⟩ := byte_at hT.out hs hy
      cases hbo
      have hdr := skip_cons hy
      have hsq := hid hs
      clear hs
      cases hP : digitI y.toNat with
      | true =>
        have hmz2 : m + 1 + spanN digitI (l.drop (m + 1)) = z := by
          have := hmz.out
          rw [hdr] at this
          simp only [spanN, hP, if_true] at this
          omega
        have hmz3 : m + 1 ≤ z := by omega
        replace hmz2 := hid hmz2
        replace hy := hid hy
        replace hdr := hid hdr
        have hcl := rdigit_any y.toNat
        rw [hP] at hcl
        replace hcl := hid hcl
        replace hP := hid hP
        go_wp2_with (first
          | (go_at_call 77; refine ((hcl).out _).mono ?_; rintro e w' ⟨rfl, rfl⟩))
        go_roundg (l.length - (m + 1))
        case measure => omega
        case rel => exact ⟨m + 1, by first | rfl | go_num, by omega, hmz3, rfl, hmz2, hsq.out⟩
      | false =>
        obtain rfl : z = m := by
          have := hmz.out
          rw [hdr] at this
          simp only [spanN, hP] at this
          simpa using this.symm
        have q1 : decide (z < l.length) = true := by simpa using hmlt
        have q1e : ((z : Int) == (l.length : Int)) = false := by rw [beq_eq_false_iff_ne]; omega
        replace hdr := hid hdr
        have hcl := rdigit_any y.toNat
        rw [hP] at hcl
        replace hcl := hid hcl
        replace hP := hid hP
        obtain ⟨b3, o3, hbo3, hby3⟩ := byte_all hT.out hy
        cases hbo3
        replace hby3 := hid hby3
        replace hy := hid hy
        have hs := hsq.out
        have e46 : (y.toNat : Int) = 46 := by
          have := hdot.out
          simp only [nextI, hy.out] at this
          simpa using this
        have q46 : ((y.toNat : Int) == 46) = true := by rw [e46]; rfl
        replace e46 := hid e46
        go_wp2_with (first
          | (go_at_call 77; refine ((hcl).out _).mono ?_; rintro e w' ⟨rfl, rfl⟩)
          | ((with_reducible refine gd_st (ty := 3) ?_); refine wl_of rfl (hs.st0 0 rfl rfl (sc_of rfl) (v := .int .i64 4) rfl (by rfl) (Nat.le_of_ble_eq_true rfl) ?_); intro w hs; replace hs : St w0 [] [(tb, row 54 (Tok.cells ⟨4, [], p⟩)), (rb, row 54 (Tok.cells ⟨0, [], 0⟩))] w := hs; have hc := hby3.out _ _ hs))
        clear hc q46 q1 q1e
        replace hcl := hid hcl
        go_loopg [9] (l.length - (z + 1)) (fun g iv wr => ∃ m : Nat, iv = .int .i64 m ∧ z + 1 ≤ m ∧ m ≤ z2 ∧ g = l.length - m ∧ Hid (m + spanN digitI (l.drop m) = z2) ∧ St w0 [] [(tb, row 54 (Tok.cells ⟨4, [], p⟩)), (rb, row 54 (Tok.cells ⟨0, [], 0⟩))] wr)
        case atStart => exact ⟨z + 1, by first | rfl | go_num, Nat.le_refl _, hz2p, rfl, hz2, hs⟩
        case round =>
          clear hs
          obtain ⟨m, rfl, hm1, hm2, rfl, hmz, hs⟩ := hrel
          by_cases hmlt : m < l.length
          · obtain ⟨y, hy⟩ : ∃ y, l[m]? = some y := ⟨_, List.getElem?_eq_getElem hmlt⟩
            obtain ⟨b2, o2, hbo, hc⟩ := byte_at hT.out hs hy
            cases hbo
            have hdr := skip_cons hy
            have hsq := hid hs
            clear hs
            cases hP : digitI y.toNat with
            | true =>
              have hmz2 : m + 1 + spanN digitI (l.drop (m + 1)) = z2 := by
                have := hmz.out
                rw [hdr] at this
                simp only [spanN, hP, if_true] at this
                omega
              have hmz3 : m + 1 ≤ z2 := by omega
              replace hmz2 := hid hmz2
              replace hy := hid hy
              replace hdr := hid hdr
              have hcl := rdigit_any y.toNat
              rw [hP] at hcl
              replace hcl := hid hcl
              replace hP := hid hP
              go_wp2_with (first
                | (go_at_call 77; refine ((hcl).out _).mono ?_; rintro e w' ⟨rfl, rfl⟩))
              go_roundg (l.length - (m + 1))
              case measure => omega
              case rel => exact ⟨m + 1, by first | rfl | go_num, by omega, hmz3, rfl, hmz2, hsq.out⟩
            | false =>
              obtain rfl : z2 = m := by
                have := hmz.out
                rw [hdr] at this
                simp only [spanN, hP] at this
                simpa using this.symm
              have q1 : decide (z2 < l.length) = true := by simpa using hmlt
              have q1e : ((z2 : Int) == (l.length : Int)) = false := by rw [beq_eq_false_iff_ne]; omega
              replace hdr := hid hdr
              have hcl := rdigit_any y.toNat
              rw [hP] at hcl
              replace hcl := hid hcl
              replace hP := hid hP
              obtain ⟨b3, o3, hbo3, hby3⟩ := byte_all hT.out hy
              cases hbo3
              replace hby3 := hid hby3
              replace hy := hid hy
              have hs := hsq.out
              have hyi : innerI y.toNat = true := by
                have := hi.out
                simpa only [holdsI, hy.out] using this
              have hci := rinner_any y
              rw [hyi] at hci
              replace hyi := hid hyi
              replace hci := hid hci
              go_wp2_with (first
                | (go_at_call 77; refine ((hcl).out _).mono ?_; rintro e w' ⟨rfl, rfl⟩)
                | ((with_reducible refine gd_st (ty := 3) ?_); refine wl_of rfl (hs.st0 0 rfl rfl (sc_of rfl) (v := .int .i64 5) rfl (by rfl) (Nat.le_of_ble_eq_true rfl) ?_); intro w hs; replace hs : St w0 [] [(tb, row 54 (Tok.cells ⟨5, [], p⟩)), (rb, row 54 (Tok.cells ⟨0, [], 0⟩))] w := hs; have hc := hby3.out _ _ hs)
                | (go_at_call 76; refine ((hci).out _).mono ?_; rintro e w' ⟨rfl, rfl⟩)
                | ((with_reducible refine gd_ld (ty := 54) ?_); refine wl_of rfl (hs.lda 0 rfl rfl ag54 (vs := Tok.cells ⟨5, [], p⟩) (Nat.le_of_eq rfl) rfl ?_))
                | ((with_reducible refine gd_st (ty := 54) ?_); refine wl_of rfl (hs.sta 1 rfl rfl ag54 (vs := Tok.cells ⟨5, [], p⟩) (by first | exact ev rfl | rfl) rfl (tok_one _) (Nat.le_of_eq rfl) (splice_all rfl) ?_); intro w hs; rw [put_none]; simp only [List.set_cons_succ, List.set_cons_zero] at hs))
              refine bodyPost_ret (results48 (T := ⟨5, [], p⟩) (hs.at 1 rfl) rfl rfl rfl) rfl ?_
              exact rtok_bad (T := ⟨5, [], p⟩) (by omega) hs.void
          · have hze : z2 = l.length := by
              have h1 := spanN_le digitI (l.drop m)
              rw [List.length_drop] at h1
              have := hmz.out
              omega
            obtain rfl : z2 = m := by omega
            have q1 : decide (z2 < l.length) = false := by simpa using hmlt
            have q1e : ((z2 : Int) == (l.length : Int)) = true := by simp; omega
            exact absurd (holdsI_lt hi.out) (by omega)
    · have hze : z = l.length := by
        have h1 := spanN_le digitI (l.drop m)
        rw [List.length_drop] at h1
        have := hmz.out
        omega
      obtain rfl : z = m := by omega
      have q1 : decide (z < l.length) = false := by simpa using hmlt
      have q1e : ((z : Int) == (l.length : Int)) = true := by simp; omega
      exact absurd (nextI_lt hdot.out) (by omega)
end Go.Proofs.Ytclingkhdmhhoaa

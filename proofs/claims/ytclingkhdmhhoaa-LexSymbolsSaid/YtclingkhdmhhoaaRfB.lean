/- The walk of the reference's Token. No condition. -/
import Derived.Test.YtclingkhdmhhoaaRfA
import Derived.Deep.Cut
namespace Go.Proofs.Ytclingkhdmhhoaa
open Go.RowKit
set_option linter.unusedSimpArgs false
set_option linter.unusedVariables false

/-- what the reference tells of a token at p -/
def RTok (w0 : World) (p : Nat) (r : Except Nat (Int × List UInt8 × Nat)) (e : Ending) (w' : World) : Prop := match r with
  | .ok (kd, t, m) => e = .returned (.tuple #[.agg (Tok.cells ⟨kd, t, p⟩).toArray, .int .i64 ((p + m : Nat) : Int), .int .i64 (-1)]) ∧ St w0 [] [] w'
  | .error k => ∃ T : Tok, e = .returned (.tuple #[.agg T.cells.toArray, .int .i64 0, .int .i64 ((p + k : Nat) : Int)]) ∧ St w0 [] [] w'
theorem run_build54p (w : World) (a : Int) : (Instr.build 54 #[(2, .int .i64 a)]).run Try.prog w = .ok (.agg (Tok.cells ⟨0, [], a⟩).toArray) w := by
  go_simp; rfl
theorem results48 {w : World} {b : Nat} {T : Tok} {e k : Value} (hb : w.heap[b]? = some (row 54 T.cells)) {tmps : Array Value} (t4 : tmps.getD 4 undef = .pointer (some ⟨b, 0, none⟩)) (t5 : tmps.getD 5 undef = e) (t6 : tmps.getD 6 undef = k) :
    (results Try.f48 tmps).run Try.prog w = .ok (.tuple #[.agg T.cells.toArray, e, k]) w := by
  have l3 := run_ld_row (P := Try.prog) ag54 hb (off := 0) (by simp [Tok.cells])
  have e3 : cut T.cells 0 3 = T.cells := by simp [cut, Tok.cells]
  rw [e3] at l3
  rw [Array.getD_eq_getD_getElem?] at t4 t5 t6
  simp [results, Try.f48, t4, t5, t6, asAddr, Sem.run_bind, l3]
def Byte (w0 : World) (b o p : Nat) (x : UInt8) : Prop := ∀ H w, St w0 [] H w → w.cell? ⟨b, o + p, none⟩ = some (.int .u8 x.toNat)
theorem byte_all {w0 : World} {A : Option Addr} {c : Nat} {l : List UInt8} {p : Nat} {x : UInt8} (hT : Txt w0 [] (.slice A l.length c) l) (hx : l[p]? = some x) : ∃ b o, A = some ⟨b, o, none⟩ ∧ Byte w0 b o p x := by
  obtain ⟨b, o, h, _⟩ := byte_at hT (St.nothing w0) hx
  refine ⟨b, o, h, fun H w hs => ?_⟩
  obtain ⟨b', o', h', hc⟩ := byte_at hT hs hx
  rw [h] at h'
  cases h'
  exact hc

theorem rtok_good {w0 : World} {p m : Nat} {kd : Int} {t : List UInt8} {z : Int} {w' : World} (hz : z = ((p + m : Nat) : Int)) (hs : St w0 [] [] w') : RTok w0 p (.ok (kd, t, m)) (.returned (.tuple #[.agg (Tok.cells ⟨kd, t, p⟩).toArray, .int .i64 z, .int .i64 (-1)])) w' := by
  subst hz; exact ⟨rfl, hs⟩
theorem rtok_bad {w0 : World} {p k : Nat} {T : Tok} {z : Int} {w' : World} (hz : z = ((p + k : Nat) : Int)) (hs : St w0 [] [] w') : RTok w0 p (.error k) (.returned (.tuple #[.agg T.cells.toArray, .int .i64 0, .int .i64 z])) w' := by
  subst hz; exact ⟨T, rfl, hs⟩
theorem Txt.now {w0 w : World} {v : Value} {l : List UInt8} {H : List (Nat × Obj)} (h : Txt w0 [] v l) (hs : St w0 [] H w) : Txt w [] v l := (h.via hs).start (by simp)

/-! written by rftok.py -/
set_option maxHeartbeats 4000000 in
set_option maxRecDepth 100000 in
theorem rtok_none {w0 : World} {v : Value} {l : List UInt8} {p : Nat} {x : UInt8} (hT : Txt w0 [] v l) (hl : l.length ≤ 1048576) (hx : l[p]? = some x) (h1 : innerI x.toNat = false) (h40 : (x.toNat : Int) ≠ 40) (h41 : (x.toNat : Int) ≠ 41) (h124 : (x.toNat : Int) ≠ 124) (h34 : (x.toNat : Int) ≠ 34) (h58 : (x.toNat : Int) ≠ 58) :
    Calls Try.prog 48 #[v, .int .i64 p] w0 (RTok w0 p (.error 0)) := by
  have hs := St.nothing w0
  obtain ⟨A, c, rfl⟩ := hT.bd
  have hlt : p < l.length := (List.getElem?_eq_some_iff.1 hx).1
  obtain ⟨b, o, rfl, hby⟩ := byte_all hT hx
  have hri := rinner_any x
  have hrd := rdigit_any x.toNat
  rw [h1] at hri
  have q40 : ((x.toNat : Int) == 40) = false := by simpa using h40
  have q41 : ((x.toNat : Int) == 41) = false := by simpa using h41
  have q124 : ((x.toNat : Int) == 124) = false := by simpa using h124
  have q34 : ((x.toNat : Int) == 34) = false := by simpa using h34
  have q58 : ((x.toNat : Int) == 58) = false := by simpa using h58
  replace hri := hid hri
  replace hrd := hid hrd
  replace hby := hid hby
  replace hT := hid hT
  replace hx := hid hx
  clear h40 h41 h124 h34 h58 h1
  go_enter Try.func48, Try.ntmps48
  go_upto_region 1 with (first
    | ((with_reducible refine gd_al ?_); refine wl_of rfl (hs.al zc54 ?_); intro rb w hrb hs))
  have hc := hby.out _ _ hs
  go_upto_region 4 with (first
    | ((with_reducible refine gd_bd ?_); refine wl_of rfl (wp_of_run (ex_build rfl (run_build54p _ _)) ?_))
    | ((with_reducible refine gd_al ?_); refine wl_of rfl (hs.al zc54 ?_); intro tb w htb hs)
    | ((with_reducible refine gd_st (ty := 54) ?_); refine wl_of rfl (hs.sta 0 rfl rfl ag54 (vs := Tok.cells ⟨0, [], p⟩) (by first | exact ev rfl | rfl) rfl (tok_one _) (Nat.le_of_eq rfl) (splice_all rfl) ?_); intro w hs; rw [put_none]; simp only [List.set_cons_zero] at hs))
  replace hs : St w0 [] [(tb, row 54 (Tok.cells ⟨0, [], p⟩)), (rb, row 54 (Tok.cells ⟨0, [], 0⟩))] w := hs
  clear hc
  go_wp2_with (first
    | (go_at_call 76; refine (hri.out _).mono ?_; rintro e w' ⟨rfl, rfl⟩)
    | ((with_reducible refine gd_ld (ty := 54) ?_); refine wl_of rfl (hs.lda 0 rfl rfl ag54 (vs := Tok.cells ⟨0, [], p⟩) (Nat.le_of_eq rfl) rfl ?_))
    | ((with_reducible refine gd_st (ty := 54) ?_); refine wl_of rfl (hs.sta 1 rfl rfl ag54 (vs := Tok.cells ⟨0, [], p⟩) (by first | exact ev rfl | rfl) rfl (tok_one _) (Nat.le_of_eq rfl) (splice_all rfl) ?_); intro w hs; rw [put_none]; simp only [List.set_cons_succ, List.set_cons_zero] at hs))
  refine bodyPost_ret (results48 (T := ⟨0, [], p⟩) (hs.at 1 rfl) rfl rfl rfl) rfl ?_
  exact rtok_bad (T := ⟨0, [], p⟩) (by omega) hs.void
set_option maxHeartbeats 4000000 in
set_option maxRecDepth 100000 in
theorem rtok_40 {w0 : World} {v : Value} {l : List UInt8} {p : Nat} {x : UInt8} (hT : Txt w0 [] v l) (hl : l.length ≤ 1048576) (hx : l[p]? = some x) (hk : (x.toNat : Int) = 40) :
    Calls Try.prog 48 #[v, .int .i64 p] w0 (RTok w0 p (.ok (1, [x], 1))) := by
  have hs := St.nothing w0
  obtain ⟨A, c, rfl⟩ := hT.bd
  have hlt : p < l.length := (List.getElem?_eq_some_iff.1 hx).1
  obtain ⟨b, o, rfl, hby⟩ := byte_all hT hx
  have hri := rinner_any x
  have hrd := rdigit_any x.toNat
  have htx : (l.drop p).take (p + 1 - p) = [x] := by rw [skip_cons hx, show p + 1 - p = 1 by omega]; rfl
  replace htx := hid htx
  have q40 : ((x.toNat : Int) == 40) = true := by simpa using hk
  replace hri := hid hri
  replace hrd := hid hrd
  replace hby := hid hby
  replace hT := hid hT
  replace hx := hid hx
  have q41 : ((x.toNat : Int) == 41) = false := by rw [hk]; rfl
  replace hk := hid hk
  go_enter Try.func48, Try.ntmps48
  go_upto_region 1 with (first
    | ((with_reducible refine gd_al ?_); refine wl_of rfl (hs.al zc54 ?_); intro rb w hrb hs))
  have hc := hby.out _ _ hs
  go_upto_region 4 with (first
    | ((with_reducible refine gd_bd ?_); refine wl_of rfl (wp_of_run (ex_build rfl (run_build54p _ _)) ?_))
    | ((with_reducible refine gd_al ?_); refine wl_of rfl (hs.al zc54 ?_); intro tb w htb hs)
    | ((with_reducible refine gd_st (ty := 54) ?_); refine wl_of rfl (hs.sta 0 rfl rfl ag54 (vs := Tok.cells ⟨0, [], p⟩) (by first | exact ev rfl | rfl) rfl (tok_one _) (Nat.le_of_eq rfl) (splice_all rfl) ?_); intro w hs; rw [put_none]; simp only [List.set_cons_zero] at hs))
  replace hs : St w0 [] [(tb, row 54 (Tok.cells ⟨0, [], p⟩)), (rb, row 54 (Tok.cells ⟨0, [], 0⟩))] w := hs
  clear hc
  go_wp2_with (first
    | ((with_reducible refine gd_st (ty := 3) ?_); refine wl_of rfl (hs.st0 0 rfl rfl (sc_of rfl) (v := .int .i64 1) rfl (by rfl) (Nat.le_of_ble_eq_true rfl) ?_); intro w hs; replace hs : St w0 [] [(tb, row 54 (Tok.cells ⟨1, [], p⟩)), (rb, row 54 (Tok.cells ⟨0, [], 0⟩))] w := hs)
    | ((with_reducible refine gd_sl ?_); obtain ⟨sv', hv1, hv2⟩ := run_txt_slice (hT.out.now hs) (lo := p) (hi := p + 1) (by omega) (by omega) .i64 .i64; have hv3 := run_txt_string hv2; rw [htx.out] at hv3; replace hv1 := hid hv1; replace hv3 := hid hv3; clear hv2; refine wl_of rfl (wp_of_run (ex_slc (by first | exact ev rfl | rfl) (by first | exact ev rfl | rfl) (by first | exact ev rfl | rfl) hv1.out) ?_))
    | ((with_reducible refine gd_cv ?_); refine wl_of rfl (wp_of_run (ex_cnv (by first | exact ev rfl | rfl) hv3.out) ?_))
    | ((with_reducible refine gd_st (ty := 9) ?_); refine wl_of rfl (hs.st0 0 rfl rfl (sc_of rfl) rfl (by rfl) (Nat.le_of_ble_eq_true rfl) ?_); intro w hs; replace hs : St w0 [] [(tb, row 54 (Tok.cells ⟨1, [x], p⟩)), (rb, row 54 (Tok.cells ⟨0, [], 0⟩))] w := hs)
    | ((with_reducible refine gd_ld (ty := 54) ?_); refine wl_of rfl (hs.lda 0 rfl rfl ag54 (vs := Tok.cells ⟨1, [x], p⟩) (Nat.le_of_eq rfl) rfl ?_))
    | ((with_reducible refine gd_st (ty := 54) ?_); refine wl_of rfl (hs.sta 1 rfl rfl ag54 (vs := Tok.cells ⟨1, [x], p⟩) (by first | exact ev rfl | rfl) rfl (tok_one _) (Nat.le_of_eq rfl) (splice_all rfl) ?_); intro w hs; rw [put_none]; simp only [List.set_cons_succ, List.set_cons_zero] at hs))
  refine bodyPost_ret (results48 (T := ⟨1, [x], p⟩) (hs.at 1 rfl) rfl rfl rfl) rfl ?_
  exact rtok_good (by omega) hs.void
set_option maxHeartbeats 4000000 in
set_option maxRecDepth 100000 in
theorem rtok_41 {w0 : World} {v : Value} {l : List UInt8} {p : Nat} {x : UInt8} (hT : Txt w0 [] v l) (hl : l.length ≤ 1048576) (hx : l[p]? = some x) (hk : (x.toNat : Int) = 41) :
    Calls Try.prog 48 #[v, .int .i64 p] w0 (RTok w0 p (.ok (2, [x], 1))) := by
  have hs := St.nothing w0
  obtain ⟨A, c, rfl⟩ := hT.bd
  have hlt : p < l.length := (List.getElem?_eq_some_iff.1 hx).1
  obtain ⟨b, o, rfl, hby⟩ := byte_all hT hx
  have hri := rinner_any x
  have hrd := rdigit_any x.toNat
  have htx : (l.drop p).take (p + 1 - p) = [x] := by rw [skip_cons hx, show p + 1 - p = 1 by omega]; rfl
  replace htx := hid htx
  have q40 : ((x.toNat : Int) == 40) = false := by rw [hk]; rfl
  have q41 : ((x.toNat : Int) == 41) = true := by simpa using hk
  replace hri := hid hri
  replace hrd := hid hrd
  replace hby := hid hby
  replace hT := hid hT
  replace hx := hid hx
  replace hk := hid hk
  go_enter Try.func48, Try.ntmps48
  go_upto_region 1 with (first
    | ((with_reducible refine gd_al ?_); refine wl_of rfl (hs.al zc54 ?_); intro rb w hrb hs))
  have hc := hby.out _ _ hs
  go_upto_region 4 with (first
    | ((with_reducible refine gd_bd ?_); refine wl_of rfl (wp_of_run (ex_build rfl (run_build54p _ _)) ?_))
    | ((with_reducible refine gd_al ?_); refine wl_of rfl (hs.al zc54 ?_); intro tb w htb hs)
    | ((with_reducible refine gd_st (ty := 54) ?_); refine wl_of rfl (hs.sta 0 rfl rfl ag54 (vs := Tok.cells ⟨0, [], p⟩) (by first | exact ev rfl | rfl) rfl (tok_one _) (Nat.le_of_eq rfl) (splice_all rfl) ?_); intro w hs; rw [put_none]; simp only [List.set_cons_zero] at hs))
  replace hs : St w0 [] [(tb, row 54 (Tok.cells ⟨0, [], p⟩)), (rb, row 54 (Tok.cells ⟨0, [], 0⟩))] w := hs
  clear hc
  go_upto_region 7 with (first
    | ((with_reducible refine gd_st (ty := 3) ?_); refine wl_of rfl (hs.st0 0 rfl rfl (sc_of rfl) (v := .int .i64 1) rfl (by rfl) (Nat.le_of_ble_eq_true rfl) ?_); intro w hs; replace hs : St w0 [] [(tb, row 54 (Tok.cells ⟨1, [], p⟩)), (rb, row 54 (Tok.cells ⟨0, [], 0⟩))] w := hs))
  go_wp2_with (first
    | ((with_reducible refine gd_st (ty := 3) ?_); refine wl_of rfl (hs.st0 0 rfl rfl (sc_of rfl) (v := .int .i64 2) rfl (by rfl) (Nat.le_of_ble_eq_true rfl) ?_); intro w hs; replace hs : St w0 [] [(tb, row 54 (Tok.cells ⟨2, [], p⟩)), (rb, row 54 (Tok.cells ⟨0, [], 0⟩))] w := hs)
    | ((with_reducible refine gd_sl ?_); obtain ⟨sv', hv1, hv2⟩ := run_txt_slice (hT.out.now hs) (lo := p) (hi := p + 1) (by omega) (by omega) .i64 .i64; have hv3 := run_txt_string hv2; rw [htx.out] at hv3; replace hv1 := hid hv1; replace hv3 := hid hv3; clear hv2; refine wl_of rfl (wp_of_run (ex_slc (by first | exact ev rfl | rfl) (by first | exact ev rfl | rfl) (by first | exact ev rfl | rfl) hv1.out) ?_))
    | ((with_reducible refine gd_cv ?_); refine wl_of rfl (wp_of_run (ex_cnv (by first | exact ev rfl | rfl) hv3.out) ?_))
    | ((with_reducible refine gd_st (ty := 9) ?_); refine wl_of rfl (hs.st0 0 rfl rfl (sc_of rfl) rfl (by rfl) (Nat.le_of_ble_eq_true rfl) ?_); intro w hs; replace hs : St w0 [] [(tb, row 54 (Tok.cells ⟨2, [x], p⟩)), (rb, row 54 (Tok.cells ⟨0, [], 0⟩))] w := hs)
    | ((with_reducible refine gd_ld (ty := 54) ?_); refine wl_of rfl (hs.lda 0 rfl rfl ag54 (vs := Tok.cells ⟨2, [x], p⟩) (Nat.le_of_eq rfl) rfl ?_))
    | ((with_reducible refine gd_st (ty := 54) ?_); refine wl_of rfl (hs.sta 1 rfl rfl ag54 (vs := Tok.cells ⟨2, [x], p⟩) (by first | exact ev rfl | rfl) rfl (tok_one _) (Nat.le_of_eq rfl) (splice_all rfl) ?_); intro w hs; rw [put_none]; simp only [List.set_cons_succ, List.set_cons_zero] at hs))
  refine bodyPost_ret (results48 (T := ⟨2, [x], p⟩) (hs.at 1 rfl) rfl rfl rfl) rfl ?_
  exact rtok_good (by omega) hs.void
set_option maxHeartbeats 4000000 in
set_option maxRecDepth 100000 in
theorem rtok_key_ok {w0 : World} {v : Value} {l : List UInt8} {p : Nat} {x : UInt8} (hT : Txt w0 [] v l) (hl : l.length ≤ 1048576) (hx : l[p]? = some x) (hk : (x.toNat : Int) = 58) {z : Nat} (hz : p + 1 + spanN innerI (l.drop (p + 1)) = z) (h0 : p + 1 < z) :
    Calls Try.prog 48 #[v, .int .i64 p] w0 (RTok w0 p (.ok (6, (l.drop (p + 1)).take (z - (p + 1)), z - p))) := by
  have hs := St.nothing w0
  obtain ⟨A, c, rfl⟩ := hT.bd
  have hlt : p < l.length := (List.getElem?_eq_some_iff.1 hx).1
  obtain ⟨b, o, rfl, hby⟩ := byte_all hT hx
  have hri := rinner_any x
  have hrd := rdigit_any x.toNat
  have hzp : p + 1 ≤ z := by omega
  have hzl : z ≤ l.length := by rw [← hz]; exact span_at_le innerI (by omega)
  replace hz := hid hz
  have qz : ((z : Int) == (p : Int) + 1) = false := by rw [beq_eq_false_iff_ne]; omega
  have q40 : ((x.toNat : Int) == 40) = false := by rw [hk]; rfl
  have q41 : ((x.toNat : Int) == 41) = false := by rw [hk]; rfl
  have q124 : ((x.toNat : Int) == 124) = false := by rw [hk]; rfl
  have q34 : ((x.toNat : Int) == 34) = false := by rw [hk]; rfl
  have q58 : ((x.toNat : Int) == 58) = true := by simpa using hk
  replace hri := hid hri
  replace hrd := hid hrd
  replace hby := hid hby
  replace hT := hid hT
  replace hx := hid hx
  replace hk := hid hk
  go_enter Try.func48, Try.ntmps48
  go_upto_region 1 with (first
    | ((with_reducible refine gd_al ?_); refine wl_of rfl (hs.al zc54 ?_); intro rb w hrb hs))
  have hc := hby.out _ _ hs
  go_upto_region 4 with (first
    | ((with_reducible refine gd_bd ?_); refine wl_of rfl (wp_of_run (ex_build rfl (run_build54p _ _)) ?_))
    | ((with_reducible refine gd_al ?_); refine wl_of rfl (hs.al zc54 ?_); intro tb w htb hs)
    | ((with_reducible refine gd_st (ty := 54) ?_); refine wl_of rfl (hs.sta 0 rfl rfl ag54 (vs := Tok.cells ⟨0, [], p⟩) (by first | exact ev rfl | rfl) rfl (tok_one _) (Nat.le_of_eq rfl) (splice_all rfl) ?_); intro w hs; rw [put_none]; simp only [List.set_cons_zero] at hs))
  replace hs : St w0 [] [(tb, row 54 (Tok.cells ⟨0, [], p⟩)), (rb, row 54 (Tok.cells ⟨0, [], 0⟩))] w := hs
  clear hc
  go_wp2_with fail
  go_loopg [9] (l.length - (p + 1)) (fun g iv wr => ∃ m : Nat, iv = .int .i64 m ∧ p + 1 ≤ m ∧ m ≤ z ∧ g = l.length - m ∧ Hid (m + spanN innerI (l.drop m) = z) ∧ St w0 [] [(tb, row 54 (Tok.cells ⟨0, [], p⟩)), (rb, row 54 (Tok.cells ⟨0, [], 0⟩))] wr)
  case atStart => exact ⟨p + 1, by first | rfl | go_num, Nat.le_refl _, hzp, rfl, hz, hs⟩
  case round =>
    clear hs
    obtain ⟨m, rfl, hm1, hm2, rfl, hmz, hs⟩ := hrel
    by_cases hmlt : m < l.length
    · obtain ⟨y, hy⟩ : ∃ y, l[m]? = some y := ⟨_, List.getElem?_eq_getElem hmlt⟩
      obtain ⟨b2, o2, hbo, hc⟩ := byte_at hT.out hs hy
      cases hbo
      have hdr := skip_cons hy
      have hsq := hid hs
      clear hs
      cases hP : innerI y.toNat with
      | true =>
        have hmz2 : m + 1 + spanN innerI (l.drop (m + 1)) = z := by
          have := hmz.out
          rw [hdr] at this
          simp only [spanN, hP, if_true] at this
          omega
        have hmz3 : m + 1 ≤ z := by omega
        replace hmz2 := hid hmz2
        replace hy := hid hy
        replace hdr := hid hdr
        have hcl := rinner_any y
        rw [hP] at hcl
        replace hcl := hid hcl
        replace hP := hid hP
        go_wp2_with (first
          | (go_at_call 76; refine ((hcl).out _).mono ?_; rintro e w' ⟨rfl, rfl⟩))
        go_roundg (l.length - (m + 1))
        case measure => omega
        case rel => exact ⟨m + 1, by first | rfl | go_num, by omega, hmz3, rfl, hmz2, hsq.out⟩
      | false =>
        obtain rfl : z = m := by
          have := hmz.out
          rw [hdr] at this
          simp only [spanN, hP] at this
          simpa using this.symm
        have q1 : decide (z < l.length) = true := by simpa using hmlt
        have q1e : ((z : Int) == (l.length : Int)) = false := by rw [beq_eq_false_iff_ne]; omega
        replace hdr := hid hdr
        have hcl := rinner_any y
        rw [hP] at hcl
        replace hcl := hid hcl
        replace hP := hid hP
        replace hy := hid hy
        have hs := hsq.out
        go_wp2_with (first
          | (go_at_call 76; refine ((hcl).out _).mono ?_; rintro e w' ⟨rfl, rfl⟩)
          | ((with_reducible refine gd_st (ty := 3) ?_); refine wl_of rfl (hs.st0 0 rfl rfl (sc_of rfl) (v := .int .i64 6) rfl (by rfl) (Nat.le_of_ble_eq_true rfl) ?_); intro w hs; replace hs : St w0 [] [(tb, row 54 (Tok.cells ⟨6, [], p⟩)), (rb, row 54 (Tok.cells ⟨0, [], 0⟩))] w := hs)
          | ((with_reducible refine gd_sl ?_); obtain ⟨sv', hv1, hv2⟩ := run_txt_slice (hT.out.now hs) (lo := p + 1) (hi := z) (by omega) (by omega) .i64 .i64; have hv3 := run_txt_string hv2; replace hv1 := hid hv1; replace hv3 := hid hv3; clear hv2; refine wl_of rfl (wp_of_run (ex_slc (by first | exact ev rfl | rfl) (by first | exact ev rfl | rfl) (by first | exact ev rfl | rfl) hv1.out) ?_))
          | ((with_reducible refine gd_cv ?_); refine wl_of rfl (wp_of_run (ex_cnv (by first | exact ev rfl | rfl) hv3.out) ?_))
          | ((with_reducible refine gd_st (ty := 9) ?_); refine wl_of rfl (hs.st0 0 rfl rfl (sc_of rfl) rfl (by rfl) (Nat.le_of_ble_eq_true rfl) ?_); intro w hs; replace hs : St w0 [] [(tb, row 54 (Tok.cells ⟨6, (l.drop (p + 1)).take (z - (p + 1)), p⟩)), (rb, row 54 (Tok.cells ⟨0, [], 0⟩))] w := hs)
          | ((with_reducible refine gd_ld (ty := 54) ?_); refine wl_of rfl (hs.lda 0 rfl rfl ag54 (vs := Tok.cells ⟨6, (l.drop (p + 1)).take (z - (p + 1)), p⟩) (Nat.le_of_eq rfl) rfl ?_))
          | ((with_reducible refine gd_st (ty := 54) ?_); refine wl_of rfl (hs.sta 1 rfl rfl ag54 (vs := Tok.cells ⟨6, (l.drop (p + 1)).take (z - (p + 1)), p⟩) (by first | exact ev rfl | rfl) rfl (tok_one _) (Nat.le_of_eq rfl) (splice_all rfl) ?_); intro w hs; rw [put_none]; simp only [List.set_cons_succ, List.set_cons_zero] at hs))
        refine bodyPost_ret (results48 (T := ⟨6, (l.drop (p + 1)).take (z - (p + 1)), p⟩) (hs.at 1 rfl) rfl rfl rfl) rfl ?_
        exact rtok_good (by omega) hs.void
    · have hze : z = l.length := by
        have h1 := spanN_le innerI (l.drop m)
        rw [List.length_drop] at h1
        have := hmz.out
        omega
      obtain rfl : z = m := by omega
      have q1 : decide (z < l.length) = false := by simpa using hmlt
      have q1e : ((z : Int) == (l.length : Int)) = true := by simp; omega
      replace hze := hid hze
      go_wp2_with (first
        | ((with_reducible refine gd_st (ty := 3) ?_); refine wl_of rfl (hs.st0 0 rfl rfl (sc_of rfl) (v := .int .i64 6) rfl (by rfl) (Nat.le_of_ble_eq_true rfl) ?_); intro w hs; replace hs : St w0 [] [(tb, row 54 (Tok.cells ⟨6, [], p⟩)), (rb, row 54 (Tok.cells ⟨0, [], 0⟩))] w := hs)
        | ((with_reducible refine gd_sl ?_); obtain ⟨sv', hv1, hv2⟩ := run_txt_slice (hT.out.now hs) (lo := p + 1) (hi := z) (by omega) (by omega) .i64 .i64; have hv3 := run_txt_string hv2; replace hv1 := hid hv1; replace hv3 := hid hv3; clear hv2; refine wl_of rfl (wp_of_run (ex_slc (by first | exact ev rfl | rfl) (by first | exact ev rfl | rfl) (by first | exact ev rfl | rfl) hv1.out) ?_))
        | ((with_reducible refine gd_cv ?_); refine wl_of rfl (wp_of_run (ex_cnv (by first | exact ev rfl | rfl) hv3.out) ?_))
        | ((with_reducible refine gd_st (ty := 9) ?_); refine wl_of rfl (hs.st0 0 rfl rfl (sc_of rfl) rfl (by rfl) (Nat.le_of_ble_eq_true rfl) ?_); intro w hs; replace hs : St w0 [] [(tb, row 54 (Tok.cells ⟨6, (l.drop (p + 1)).take (z - (p + 1)), p⟩)), (rb, row 54 (Tok.cells ⟨0, [], 0⟩))] w := hs)
        | ((with_reducible refine gd_ld (ty := 54) ?_); refine wl_of rfl (hs.lda 0 rfl rfl ag54 (vs := Tok.cells ⟨6, (l.drop (p + 1)).take (z - (p + 1)), p⟩) (Nat.le_of_eq rfl) rfl ?_))
        | ((with_reducible refine gd_st (ty := 54) ?_); refine wl_of rfl (hs.sta 1 rfl rfl ag54 (vs := Tok.cells ⟨6, (l.drop (p + 1)).take (z - (p + 1)), p⟩) (by first | exact ev rfl | rfl) rfl (tok_one _) (Nat.le_of_eq rfl) (splice_all rfl) ?_); intro w hs; rw [put_none]; simp only [List.set_cons_succ, List.set_cons_zero] at hs))
      refine bodyPost_ret (results48 (T := ⟨6, (l.drop (p + 1)).take (z - (p + 1)), p⟩) (hs.at 1 rfl) rfl rfl rfl) rfl ?_
      exact rtok_good (by omega) hs.void
set_option maxHeartbeats 4000000 in
set_option maxRecDepth 100000 in
theorem rtok_key_bad {w0 : World} {v : Value} {l : List UInt8} {p : Nat} {x : UInt8} (hT : Txt w0 [] v l) (hl : l.length ≤ 1048576) (hx : l[p]? = some x) (hk : (x.toNat : Int) = 58) {z : Nat} (hz : p + 1 + spanN innerI (l.drop (p + 1)) = z) (h0 : z = p + 1) :
    Calls Try.prog 48 #[v, .int .i64 p] w0 (RTok w0 p (.error 1)) := by
  have hs := St.nothing w0
  obtain ⟨A, c, rfl⟩ := hT.bd
  have hlt : p < l.length := (List.getElem?_eq_some_iff.1 hx).1
  obtain ⟨b, o, rfl, hby⟩ := byte_all hT hx
  have hri := rinner_any x
  have hrd := rdigit_any x.toNat
  have hzp : p + 1 ≤ z := by omega
  have hzl : z ≤ l.length := by rw [← hz]; exact span_at_le innerI (by omega)
  replace hz := hid hz
  have qz : ((z : Int) == (p : Int) + 1) = true := by simp; omega
  have q40 : ((x.toNat : Int) == 40) = false := by rw [hk]; rfl
  have q41 : ((x.toNat : Int) == 41) = false := by rw [hk]; rfl
  have q124 : ((x.toNat : Int) == 124) = false := by rw [hk]; rfl
  have q34 : ((x.toNat : Int) == 34) = false := by rw [hk]; rfl
  have q58 : ((x.toNat : Int) == 58) = true := by simpa using hk
  replace hri := hid hri
  replace hrd := hid hrd
  replace hby := hid hby
  replace hT := hid hT
  replace hx := hid hx
  replace hk := hid hk
  replace h0 := hid h0
  go_enter Try.func48, Try.ntmps48
  go_upto_region 1 with (first
    | ((with_reducible refine gd_al ?_); refine wl_of rfl (hs.al zc54 ?_); intro rb w hrb hs))
  have hc := hby.out _ _ hs
  go_upto_region 4 with (first
    | ((with_reducible refine gd_bd ?_); refine wl_of rfl (wp_of_run (ex_build rfl (run_build54p _ _)) ?_))
    | ((with_reducible refine gd_al ?_); refine wl_of rfl (hs.al zc54 ?_); intro tb w htb hs)
    | ((with_reducible refine gd_st (ty := 54) ?_); refine wl_of rfl (hs.sta 0 rfl rfl ag54 (vs := Tok.cells ⟨0, [], p⟩) (by first | exact ev rfl | rfl) rfl (tok_one _) (Nat.le_of_eq rfl) (splice_all rfl) ?_); intro w hs; rw [put_none]; simp only [List.set_cons_zero] at hs))
  replace hs : St w0 [] [(tb, row 54 (Tok.cells ⟨0, [], p⟩)), (rb, row 54 (Tok.cells ⟨0, [], 0⟩))] w := hs
  clear hc
  go_wp2_with fail
  go_loopg [9] (l.length - (p + 1)) (fun g iv wr => ∃ m : Nat, iv = .int .i64 m ∧ p + 1 ≤ m ∧ m ≤ z ∧ g = l.length - m ∧ Hid (m + spanN innerI (l.drop m) = z) ∧ St w0 [] [(tb, row 54 (Tok.cells ⟨0, [], p⟩)), (rb, row 54 (Tok.cells ⟨0, [], 0⟩))] wr)
  case atStart => exact ⟨p + 1, by first | rfl | go_num, Nat.le_refl _, hzp, rfl, hz, hs⟩
  case round =>
    clear hs
    obtain ⟨m, rfl, hm1, hm2, rfl, hmz, hs⟩ := hrel
    by_cases hmlt : m < l.length
    · obtain ⟨y, hy⟩ : ∃ y, l[m]? = some y := ⟨_, List.getElem?_eq_getElem hmlt⟩
      obtain ⟨b2, o2, hbo, hc⟩ := byte_at hT.out hs hy
      cases hbo
      have hdr := skip_cons hy
      have hsq := hid hs
      clear hs
      cases hP : innerI y.toNat with
      | true =>
        have hmz2 : m + 1 + spanN innerI (l.drop (m + 1)) = z := by
          have := hmz.out
          rw [hdr] at this
          simp only [spanN, hP, if_true] at this
          omega
        have hmz3 : m + 1 ≤ z := by omega
        replace hmz2 := hid hmz2
        replace hy := hid hy
        replace hdr := hid hdr
        have hcl := rinner_any y
        rw [hP] at hcl
        replace hcl := hid hcl
        replace hP := hid hP
        go_wp2_with (first
          | (go_at_call 76; refine ((hcl).out _).mono ?_; rintro e w' ⟨rfl, rfl⟩))
        go_roundg (l.length - (m + 1))
        case measure => omega
        case rel => exact ⟨m + 1, by first | rfl | go_num, by omega, hmz3, rfl, hmz2, hsq.out⟩
      | false =>
        obtain rfl : z = m := by
          have := hmz.out
          rw [hdr] at this
          simp only [spanN, hP] at this
          simpa using this.symm
        have q1 : decide (z < l.length) = true := by simpa using hmlt
        have q1e : ((z : Int) == (l.length : Int)) = false := by rw [beq_eq_false_iff_ne]; omega
        replace hdr := hid hdr
        have hcl := rinner_any y
        rw [hP] at hcl
        replace hcl := hid hcl
        replace hP := hid hP
        replace hy := hid hy
        have hs := hsq.out
        go_wp2_with (first
          | (go_at_call 76; refine ((hcl).out _).mono ?_; rintro e w' ⟨rfl, rfl⟩)
          | ((with_reducible refine gd_ld (ty := 54) ?_); refine wl_of rfl (hs.lda 0 rfl rfl ag54 (vs := Tok.cells ⟨0, [], p⟩) (Nat.le_of_eq rfl) rfl ?_))
          | ((with_reducible refine gd_st (ty := 54) ?_); refine wl_of rfl (hs.sta 1 rfl rfl ag54 (vs := Tok.cells ⟨0, [], p⟩) (by first | exact ev rfl | rfl) rfl (tok_one _) (Nat.le_of_eq rfl) (splice_all rfl) ?_); intro w hs; rw [put_none]; simp only [List.set_cons_succ, List.set_cons_zero] at hs))
        refine bodyPost_ret (results48 (T := ⟨0, [], p⟩) (hs.at 1 rfl) rfl rfl rfl) rfl ?_
        exact rtok_bad (T := ⟨0, [], p⟩) (by have := h0.out; omega) hs.void
    · have hze : z = l.length := by
        have h1 := spanN_le innerI (l.drop m)
        rw [List.length_drop] at h1
        have := hmz.out
        omega
      obtain rfl : z = m := by omega
      have q1 : decide (z < l.length) = false := by simpa using hmlt
      have q1e : ((z : Int) == (l.length : Int)) = true := by simp; omega
      replace hze := hid hze
      go_wp2_with (first
        | ((with_reducible refine gd_ld (ty := 54) ?_); refine wl_of rfl (hs.lda 0 rfl rfl ag54 (vs := Tok.cells ⟨0, [], p⟩) (Nat.le_of_eq rfl) rfl ?_))
        | ((with_reducible refine gd_st (ty := 54) ?_); refine wl_of rfl (hs.sta 1 rfl rfl ag54 (vs := Tok.cells ⟨0, [], p⟩) (by first | exact ev rfl | rfl) rfl (tok_one _) (Nat.le_of_eq rfl) (splice_all rfl) ?_); intro w hs; rw [put_none]; simp only [List.set_cons_succ, List.set_cons_zero] at hs))
      refine bodyPost_ret (results48 (T := ⟨0, [], p⟩) (hs.at 1 rfl) rfl rfl rfl) rfl ?_
      exact rtok_bad (T := ⟨0, [], p⟩) (by have := h0.out; omega) hs.void
end Go.Proofs.Ytclingkhdmhhoaa

/- The walk of the law LexJoins. No condition. -/
import Derived.Test.YtclingkhdmhhoaaLxV
namespace Go.Proofs.Ytclingkhdmhhoaa
open Go.RowKit
set_option linter.unusedSimpArgs false
set_option linter.unusedVariables false

theorem run_bs2 (w : World) : (Instr.buildSlice 43 2 #[(0, .int .u8 10), (1, .int .u8 59)]).run Try.prog w = .ok (.slice (some ⟨w.heap.size, 0, none⟩) 2 2) (w.alloc (row 5 (sv [10, 59]))) := by
  go_simp; rfl
theorem Txt.old {w0 w : World} {v : Value} {l : List UInt8} {H : List (Nat × Obj)} (h : Txt w0 [] v l) (hs : St w0 [] H w) : Txt w [] v l := (h.via hs).start (by simp)
theorem St.flt {w0 w : World} {D : List Nat} {b : Nat} {k a : Int} {H : List (Nat × Obj)} (hs : St w0 D ((b, row 46 [.int .i64 k, .int .i64 a]) :: H) w) : w.cell? ⟨b, 0, none⟩ = some (.int .i64 k) := row_cell (hs.at 0 rfl) 0
/-- a text but for the ends of its lines -/
def noNl (l : List UInt8) : List UInt8 := l.filter fun x => ((x.toNat : Int) != 10)
theorem noNl_snoc (l : List UInt8) (x : UInt8) : noNl (l ++ [x]) = if ((x.toNat : Int) != 10) = true then noNl l ++ [x] else noNl l := by
  unfold noNl
  rw [List.filter_append]
  split
  · rename_i h; simp [h]
  · rename_i h
    have h' : ((x.toNat : Int) != 10) = false := by simpa using h
    simp [h']
theorem noNl_le (l : List UInt8) : (noNl l).length ≤ l.length := List.length_filter_le _ _

theorem cells_u8 {w : World} {b : Nat} {l : List UInt8} (h : w.heap[b]? = some (row 5 (sv l))) : ∀ j u, l[j]? = some u → w.cell? ((⟨b, 0, none⟩ : Addr).add j) = some (u8 u) := fun j u hu => cells_at h j (u8 u) (by simp [sv, hu])
set_option maxHeartbeats 4000000 in
set_option maxRecDepth 4000 in
theorem joins_main {w0 : World} {va vb vc : Value} {A B C : List UInt8} (ha : Txt w0 [] va A) (hb : Txt w0 [] vb B) (hc : Txt w0 [] vc C) (hA : A.length ≤ 2000) (hB : B.length ≤ 2000) (hC : C.length ≤ 200) {xs ys : List Tok} (hx : readC A 0 = .ok xs) (hy : readC B 0 = .ok ys) :
    Calls Try.prog 6 #[va, vb, vc] w0 fun e w' => e = .returned (.bool true) ∧ Below w0.heap.size w0 w' := by
  have hs := St.nothing w0
  have q1 : decide ((2000 : Int) < (A.length : Int)) = false := by simp; omega
  have q2 : decide ((2000 : Int) < (B.length : Int)) = false := by simp; omega
  have q3 : decide ((200 : Int) < (C.length : Int)) = false := by simp; omega
  obtain ⟨pa, ca, rfl, ha'⟩ := id ha
  obtain ⟨pb, cb, rfl, hb'⟩ := id hb
  obtain ⟨pc, cc, rfl, hc'⟩ := id hc
  clear ha' hb' hc'
  replace ha := hid ha
  replace hb := hid hb
  replace hc := hid hc
  replace hx := hid hx
  replace hy := hid hy
  go_enter Try.func6, Try.ntmps6
  go_upto_region 6 with (first
    | (go_at_call 22; refine (speaks7 _).mono ?_; rintro e w ⟨rfl, hs'⟩; replace hs := hs.plus hs'; clear hs'; simp only [List.append_nil] at hs)
    | (go_at_call 23; refine (read_ok hx.out (by omega) (ha.out.old hs)).mono ?_; rintro e w ⟨vx, CX, rfl, hslx, hs'⟩; replace hs := hs.plus hs'; clear hs'; simp only [List.nil_append] at hs)
    | ((with_reducible refine gd_al ?_); refine wl_of rfl (hs.al (zc_of rfl) ?_); intro b8 w hb8 hs)
    | ((with_reducible refine gd_st (ty := 46) ?_); refine wl_of rfl (hs.sta 0 rfl rfl ag46 (vs := [.int .i64 0, .int .i64 0]) (by first | exact ev rfl | rfl) rfl (by simp [Value.oneCell']) (Nat.le_of_eq rfl) (splice_all rfl) ?_); intro w hs; rw [put_none]; simp only [List.set_cons_zero] at hs))
  have f8 := hid hs.flt
  go_upto_region 7 with (first
    | (go_at_call 23; refine (read_ok hy.out (by omega) (hb.out.old hs)).mono ?_; rintro e w ⟨vy, CY, rfl, hsly, hs'⟩; replace hs := hs.plus hs'; clear hs'; simp only [List.cons_append] at hs)
    | ((with_reducible refine gd_al ?_); refine wl_of rfl (hs.al (zc_of rfl) ?_); intro b10 w hb10 hs)
    | ((with_reducible refine gd_st (ty := 46) ?_); refine wl_of rfl (hs.sta 0 rfl rfl ag46 (vs := [.int .i64 0, .int .i64 0]) (by first | exact ev rfl | rfl) rfl (by simp [Value.oneCell']) (Nat.le_of_eq rfl) (splice_all rfl) ?_); intro w hs; rw [put_none]; simp only [List.set_cons_zero] at hs))
  have g8 : w.cell? ⟨b8, 0, none⟩ = some (.int .i64 0) := row_cell (hs.at 1 rfl) 0
  have g10 := hs.flt
  have hs1 := hid (St.drop (A := [_, _]) (B := CX ++ CY) hs)
  clear hs f8
  go_upto_region 9 with fail
  have hs := hs1.out
  clear g8 g10
  go_wp2_with (first
    | ((with_reducible refine gd_bs (n := 2) ?_); refine wl_of rfl (hs.bsn rfl run_bs2 ?_); intro gm w hgm hs)
    | ((with_reducible refine gd_cv ?_); refine wl_of rfl (hs.cvc 0 (vs := sv _) rfl (by first | exact ev rfl | rfl) ?_); intro w hs; simp only [List.set_cons_zero] at hs))
  have hm0 : Mid (.slice (some ⟨gm, 0, none⟩) 2 2) (10 :: 59 :: noNl (C.take 0)) [(gm, fz (sv [10, 59]))] := .inr ⟨gm, rfl, rfl, by simp [maxLen, noNl]⟩
  replace hm0 := hid hm0
  go_loopg [11, 56] C.length (fun g mv iv wr => ∃ (j : Nat) (CM : List (Nat × Obj)), j ≤ C.length ∧ g = C.length - j ∧ iv = .int .i64 j ∧ Hid (Mid mv (10 :: 59 :: noNl (C.take j)) CM) ∧ St w0 [] (CM ++ (CX ++ CY)) wr)
  case atStart => exact ⟨0, [(gm, fz (sv [10, 59]))], Nat.zero_le _, rfl, rfl, hm0, hs⟩
  case round =>
    clear hs hm0 hs1
    obtain ⟨j, CM, hj, rfl, rfl, hm, hs⟩ := hrel
    by_cases hlt : j < C.length
    · obtain ⟨x, hxj⟩ : ∃ x, C[j]? = some x := ⟨_, List.getElem?_eq_getElem hlt⟩
      obtain ⟨bc, oc, rfl, hcell⟩ := byte_at hc.out hs hxj
      have htk : C.take (j + 1) = C.take j ++ [x] := by rw [List.take_add_one, hxj]; rfl
      have hsn := noNl_snoc (C.take j) x
      rw [← htk] at hsn
      have hlen : (noNl (C.take j)).length ≤ 200 := by have h1 := noNl_le (C.take j); have h2 : (C.take j).length ≤ C.length := by simp; omega
                                                       omega
      cases hb10 : ((x.toNat : Int) != 10) with
      | true =>
        rw [hb10, if_pos rfl] at hsn
        have hb10' : ((x.toNat : Int) == 10) = false := by simpa [bne] using hb10
        replace hsn := hid hsn
        replace hxj := hid hxj
        clear htk
        go_wp2_with (first
          | ((with_reducible refine gd_ia ?_); refine wl_of rfl (wp_of_run (ex_indexAddr st43 (by first | exact ev rfl | rfl) (by first | exact ev rfl | rfl) hlt _) ?_))
          | ((with_reducible refine gd_ld (ty := 5) ?_); refine wl_of rfl (wp_ldc (by rw [Nat.mul_one]; exact hcell) (by first | exact ev rfl | rfl) sc5 ?_))
          | ((with_reducible refine gd_bs (n := 1) ?_); refine wl_of rfl (hs.bsn rfl (fun w => run_bs1b w x) ?_); intro gb w hgb hs; replace hs : St w0 [] ([(gb, row 5 (sv [x]))] ++ CM ++ (CX ++ CY)) w := hs)
          | ((with_reducible refine gd_ap ?_); refine wl_of rfl (St.appM [_] (CX ++ CY) hs hm.out (m := 1) (news := [x]) (by first | exact ev rfl | rfl) (by first | exact ev rfl | rfl) rfl (by decide) (cells_u8 (hs.at 0 rfl)) (by simp only [List.length_cons]; omega) ?_); intro mv' CM' w hs hm'; replace hm' := hid hm'))
        go_roundg (C.length - (j + 1))
        case measure => omega
        case rel => exact ⟨j + 1, CM', hlt, rfl, by go_num, hid (.inl (by rw [hsn.out]; exact hm'.out)), St.drop (A := [_]) (B := CM' ++ (CX ++ CY)) hs⟩
      | false =>
        rw [hb10, if_neg (by simp)] at hsn
        have hb10' : ((x.toNat : Int) == 10) = true := by simpa [bne] using hb10
        have hx10 : (x.toNat : Int) = 10 := by simpa using hb10'
        rw [hx10] at hcell
        clear hb10 hb10'
        replace hsn := hid hsn
        replace hxj := hid hxj
        replace hx10 := hid hx10
        clear htk
        go_wp2_with (first
          | ((with_reducible refine gd_ia ?_); refine wl_of rfl (wp_of_run (ex_indexAddr st43 (by first | exact ev rfl | rfl) (by first | exact ev rfl | rfl) hlt _) ?_))
          | ((with_reducible refine gd_ld (ty := 5) ?_); refine wl_of rfl (wp_ldc (by rw [Nat.mul_one]; exact hcell) (by first | exact ev rfl | rfl) sc5 ?_)))
        go_roundg (C.length - (j + 1))
        case measure => omega
        case rel => exact ⟨j + 1, CM, hlt, rfl, by go_num, hid (by rw [hsn.out]; exact hm.out), hs⟩
    · obtain rfl : j = C.length := by omega
      rw [List.take_length] at hm
      have hlen : (noNl C).length ≤ 200 := by have h1 := noNl_le C; omega
      have hjoin := read_join (noNl C) B (fun x hx => by
        have := (List.mem_filter.1 hx).2
        simpa using this) A.length A 0 xs (ys.map (Tok.shift (A.length + ((noNl C).length + 3)))) (Nat.le_refl _) hx.out (by
          have := readC_shift (k := A.length + ((noNl C).length + 3)) hy.out
          rw [show 0 + A.length + ((noNl C).length + 3) = 0 + (A.length + ((noNl C).length + 3)) by omega]; exact this)
      generalize hM : noNl C = M at *
      have hall : A ++ (10 :: 59 :: M ++ [10]) ++ B = A ++ ((10 :: 59 :: M) ++ [10] ++ B) := by simp
      rw [← hall] at hjoin
      generalize hM2 : (10 :: 59 :: M ++ [10] : List UInt8) = M2 at *
      have hM2l : M2.length = M.length + 3 := by rw [← hM2]; simp
      have hM2b : M2.length ≤ 203 := by omega
      have hxl := readC_len hx.out
      have hyl := readC_len hy.out
      have hyat := readC_at hy.out
      replace hM2 := hid hM2
      replace hM := hid hM
      replace hjoin := hid hjoin
      replace hM2l := hid hM2l
      replace hyat := hid hyat
      clear hall
      go_upto_region 17 with (first
        | ((with_reducible refine gd_bs (n := 1) ?_); refine wl_of rfl (hs.bsn rfl (fun w => run_bs1b w 10) ?_); intro gb w hgb hs; replace hs : St w0 [] ([(gb, row 5 (sv [10]))] ++ CM ++ (CX ++ CY)) w := hs)
        | ((with_reducible refine gd_ap ?_); refine wl_of rfl (St.appM [_] (CX ++ CY) hs hm.out (m := 1) (news := [10]) (by first | exact ev rfl | rfl) (by first | exact ev rfl | rfl) rfl (by decide) (cells_u8 (hs.at 0 rfl)) (by simp only [List.length_cons]; omega) ?_); intro mv' CM' w hs hm'; replace hm' := hid hm'))
      have hm2 := hm'.out
      rw [hM2.out] at hm2
      obtain ⟨pm, cm, rfl⟩ := (Mid.val (.inl hm2) : ∃ A c, mv' = .slice A M2.length c)
      replace hm2 := hid hm2
      have hs2 : St w0 [] (CM' ++ (CX ++ CY)) w := St.drop (A := [_]) (B := CM' ++ (CX ++ CY)) hs
      clear hs hm' hm
      have hs := hs2
      clear hs2
      go_upto_region 18 with (first
        | ((with_reducible refine gd_bs (n := 0) ?_); refine wl_of rfl (hs.bs0 el43 ?_); intro g0 w hg0 hs hsl0; replace hsl0 := hid hsl0)
        | ((with_reducible refine gd_ap ?_); refine wl_of rfl (St.appT [] (CM' ++ (CX ++ CY)) (C := C2) (l := A ++ M2) hs hsl2.out (hb.out.old hs) (by first | exact ev rfl | rfl) (by first | exact ev rfl | rfl) (by simp only [List.length_append]; omega) ?_); intro v3 C3 w hs hsl3; replace hsl3 := hid hsl3; replace hs : St w0 [] (C3 ++ (CM' ++ (CX ++ CY))) w := hs)
        | ((with_reducible refine gd_ap ?_); refine wl_of rfl (St.appT [] (CM' ++ (CX ++ CY)) (C := C1) (l := A) hs hsl1.out (Mid.txt (.inl hm2.out) hs (fun p hp => List.mem_append.2 (.inr (List.mem_append.2 (.inl hp))))) (by first | exact ev rfl | rfl) (by first | exact ev rfl | rfl) (by omega) ?_); intro v2 C2 w hs hsl2; replace hsl2 := hid hsl2; replace hs : St w0 [] (C2 ++ (CM' ++ (CX ++ CY))) w := hs)
        | ((with_reducible refine gd_ap ?_); refine wl_of rfl (St.appT [] (CM' ++ (CX ++ CY)) (C := [(g0, row 5 [])]) (l := []) hs hsl0.out (ha.out.old hs) (by first | exact ev rfl | rfl) (by first | exact ev rfl | rfl) (by simp only [List.length_nil]; omega) ?_); intro v1 C1 w hs hsl1; rw [List.nil_append] at hsl1; replace hsl1 := hid hsl1; replace hs : St w0 [] (C1 ++ (CM' ++ (CX ++ CY))) w := hs))
      have hLb : (A ++ M2 ++ B).length ≤ 4203 := by simp only [List.length_append]; omega
      generalize hL : A ++ M2 ++ B = L at hjoin hsl3 hLb
      replace hL := hid hL
      obtain ⟨p3, c3, rfl⟩ := (Mid.val (.inl hsl3.out) : ∃ A' c, v3 = .slice A' L.length c)
      have ht3 := hid (Mid.txt (.inl hsl3.out) hs (fun p hp => List.mem_append.2 (.inl hp)))
      generalize hzs : xs ++ ys.map (Tok.shift (A.length + (M.length + 3))) = zs at hjoin
      have hzl : zs.length = xs.length + ys.length := by rw [← hzs]; simp
      go_upto_region 19 with (first
        | (go_at_call 23; refine (read_ok hjoin.out (by omega) (ht3.out)).mono ?_; rintro e w ⟨vz, CZ, rfl, hslz, hs'⟩; replace hs := hs.plus hs'; clear hs')
        | ((with_reducible refine gd_al ?_); refine wl_of rfl (hs.al (zc_of rfl) ?_); intro b16 w hb16 hs)
        | ((with_reducible refine gd_st (ty := 46) ?_); refine wl_of rfl (hs.sta 0 rfl rfl ag46 (vs := [.int .i64 0, .int .i64 0]) (by first | exact ev rfl | rfl) rfl (by simp [Value.oneCell']) (Nat.le_of_eq rfl) (splice_all rfl) ?_); intro w hs; rw [put_none]; simp only [List.set_cons_zero] at hs))
      have mX : ∀ p ∈ CX, p ∈ (b16, row 46 [.int .i64 0, .int .i64 0]) :: (C3 ++ (CM' ++ (CX ++ CY)) ++ CZ) := fun p hp => by simp only [List.mem_cons, List.mem_append]; exact .inr (.inl (.inr (.inr (.inl hp))))
      have mY : ∀ p ∈ CY, p ∈ (b16, row 46 [.int .i64 0, .int .i64 0]) :: (C3 ++ (CM' ++ (CX ++ CY)) ++ CZ) := fun p hp => by simp only [List.mem_cons, List.mem_append]; exact .inr (.inl (.inr (.inr (.inr hp))))
      have mZ : ∀ p ∈ CZ, p ∈ (b16, row 46 [.int .i64 0, .int .i64 0]) :: (C3 ++ (CM' ++ (CX ++ CY)) ++ CZ) := fun p hp => by simp only [List.mem_cons, List.mem_append]; exact .inr (.inr hp)
      have g16 := hs.flt
      generalize (b16, row 46 [.int .i64 0, .int .i64 0]) :: (C3 ++ (CM' ++ (CX ++ CY)) ++ CZ) = HZ at hs mX mY mZ
      have uY := hid (fun (wr : World) (h : St w0 [] HZ wr) => hsly.out.tks h mY)
      have uZ := hid (fun (wr : World) (h : St w0 [] HZ wr) => hslz.out.tks h mZ)
      have tX := hslx.out.tks hs mX
      have tZ := uZ.out _ hs
      have tY := uY.out _ hs
      obtain ⟨px, cx, hvx, -⟩ := id tX
      obtain ⟨py, cy, hvy, -⟩ := id tY
      obtain ⟨pz, cz, hvz, -⟩ := id tZ
      rw [hzl] at hvz
      have hzt : zs.take xs.length = xs := by rw [← hzs]; simp
      have hzd : zs.drop xs.length = ys.map (Tok.shift (A.length + (M.length + 3))) := by rw [← hzs]; simp
      have hto := tZ.to (k := xs.length) (by omega) (by omega)
      rw [hzt] at hto
      have sm := same7 hto.2 tX (by omega) (by omega)
      rw [toksB_self] at sm
      subst hvx hvy hvz
      clear mX mY mZ
      have hto1 := hto.1
      generalize slTo (.slice pz (xs.length + ys.length) cz) xs.length = v99 at hto1 sm
      replace hto1 := hid hto1
      replace sm := hid sm
      replace hzt := hid hzt
      replace hzd := hid hzd
      replace hzl := hid hzl
      replace hzs := hid hzs
      have hs1 := hid hs
      clear hs hto tX tY tZ
      go_upto_region 21 with (first
        | ((with_reducible refine gd_sl ?_); refine wl_on rfl (wp_of_run (ex_sl_to (by first | exact ev rfl | rfl) (by first | exact ev rfl | rfl) hto1.out) ?_))
        | (go_at_call 25; refine sm.out.mono ?_; rintro e w' ⟨rfl, n9, rfl⟩))
      have hs := hs1.out.drewN n9
      clear g16
      have hfr := (uZ.out _ hs).from (k := xs.length) (by have := hzl.out; omega) (by have := hzl.out; omega)
      rw [hzd.out] at hfr
      obtain ⟨p7, c7, h7, -⟩ := id hfr.2
      rw [List.length_map] at h7
      have hfr1 := hfr.1
      rw [h7] at hfr1
      have uF := hid (fun (wr : World) (h : St w0 [] HZ wr) => show Tks wr (.slice p7 ys.length c7) (ys.map (Tok.shift (A.length + (M.length + 3)))) by
        have := ((uZ.out _ h).from (k := xs.length) (by have := hzl.out; omega) (by have := hzl.out; omega)).2
        rw [hzd.out, h7] at this; exact this)
      replace hfr1 := hid hfr1
      clear hfr h7
      have hsq := hid hs
      clear hs
      go_wp2_with (first
        | ((with_reducible refine gd_sl ?_); refine wl_of rfl (wp_of_run (ex_sl_from (by first | exact ev rfl | rfl) (by first | exact ev rfl | rfl) hfr1.out) ?_)))
      go_loopg [109] ys.length (fun g iv wr => ∃ j : Nat, j ≤ ys.length ∧ g = ys.length - j ∧ iv = .int .i64 j ∧ St w0 [] HZ wr)
      case atStart => exact ⟨0, Nat.zero_le _, rfl, rfl, hsq.out⟩
      case round =>
        obtain ⟨j, hj2, rfl, rfl, hs⟩ := hrel
        by_cases hlt2 : j < ys.length
        · have ey : ys[j]? = some ys[j] := List.getElem?_eq_getElem hlt2
          have hyj := hyat.out ys[j] (List.getElem_mem hlt2)
          have es : (ys.map (Tok.shift (A.length + (M.length + 3))))[j]? = some (Tok.shift (A.length + (M.length + 3)) ys[j]) := by simp [ey]
          obtain ⟨b7, o7, rfl, hc7⟩ : ∃ b o, p7 = some ⟨b, o, none⟩ ∧ ∀ k u, (Tok.shift (A.length + (M.length + 3)) ys[j]).cells[k]? = some u → wr.cell? ⟨b, o + j * 3 + k, none⟩ = some u := by
            obtain ⟨A', c', e1, e2, h⟩ := uF.out _ hs
            simp only [Value.slice.injEq] at e1
            rcases h with h | ⟨b, o, h, hc⟩
            · have := congrArg List.length h
              simp at this; subst this; simp at hlt2
            · exact ⟨b, o, e1.1.trans h, fun k u hk => hc j _ es k u hk⟩
          obtain ⟨by_, oy, rfl, hcy⟩ : ∃ b o, py = some ⟨b, o, none⟩ ∧ ∀ wr, St w0 [] HZ wr → ∀ k u, ys[j].cells[k]? = some u → wr.cell? ⟨b, o + j * 3 + k, none⟩ = some u := by
            obtain ⟨A', c', e1, e2, h⟩ := uY.out _ hs
            simp only [Value.slice.injEq] at e1
            rcases h with h | ⟨b, o, h, hc⟩
            · subst h; simp at hlt2
            · refine ⟨b, o, e1.1.trans h, fun wr' hs' k u hk => ?_⟩
              obtain ⟨A2, c2, e3, e4, h2⟩ := uY.out _ hs'
              simp only [Value.slice.injEq] at e3
              rcases h2 with h2 | ⟨b2, o2, h2, hc2⟩
              · subst h2; simp at hlt2
              · have e5 := h.symm.trans (e1.1.symm.trans (e3.1.trans h2))
                simp only [Option.some.injEq, Addr.mk.injEq] at e5
                obtain ⟨rfl, rfl, _⟩ := e5
                exact hc2 j _ ey k u hk
          generalize ys[j] = y at *
          obtain ⟨kd, tx, ya⟩ := y
          obtain ⟨ta, hta⟩ : ∃ ta : Int, ya + ((A.length + (M.length + 3) : Nat) : Int) = ta := ⟨_, rfl⟩
          have ecl : (Tok.shift (A.length + (M.length + 3)) ⟨kd, tx, ya⟩).cells = [.int .i64 kd, str tx, .int .i64 ta] := by rw [← hta]; rfl
          rw [ecl] at hc7
          simp only at hyj
          have hta1 : 0 ≤ ta := by omega
          have hta2 : ta ≤ 10000 := by omega
          have hfin : ta - ((A.length : Int) + (M2.length : Int)) = ya := by have := hM2l.out; omega
          replace hfin := hid hfin
          replace hta := hid hta
          replace hyj := hid hyj
          replace hc7 := hid hc7
          replace hcy := hid hcy
          clear ey es ecl
          go_upto_region 25 with (first
            | ((with_reducible refine gd_ia ?_); refine wl_of rfl (wp_of_run (ex_indexAddr st44 (by first | exact ev rfl | rfl) (by first | exact ev rfl | rfl) hlt2 _) ?_))
            | ((with_reducible refine gd_ld (ty := 54) ?_); refine wl_of rfl (wp_lda (vs := [.int .i64 kd, str tx, .int .i64 ta]) (by first | exact ev rfl | rfl) ag54 rfl hc7.out ?_))
            | ((with_reducible refine gd_al ?_); refine wl_of rfl (hs.al (zc_of rfl) ?_); intro bt w hbt hs)
            | ((with_reducible refine gd_st (ty := 54) ?_); refine wl_of rfl (hs.sta 0 rfl rfl ag54 (vs := [.int .i64 kd, str tx, .int .i64 ta]) (by first | exact ev rfl | rfl) rfl (tok_one ⟨kd, tx, ta⟩) (Nat.le_of_eq rfl) (splice_all rfl) ?_); intro w hs; rw [put_none]; simp only [List.set_cons_zero] at hs)
            | ((with_reducible refine gd_ld (ty := 3) ?_); refine wl_of rfl (hs.ld 0 rfl rfl sc3 rfl ?_))
            | ((with_reducible refine gd_st (ty := 3) ?_); refine wl_of rfl (hs.st0 0 rfl rfl sc3 (v := .int .i64 (ta - ((A.length : Int) + (M2.length : Int)))) (by first | exact ev rfl | rfl) (by rfl) (Nat.le_of_ble_eq_true rfl) ?_); intro w hs; rw [hfin.out] at hs; replace hs : St w0 [] ((bt, row 54 (Tok.cells ⟨kd, tx, ya⟩)) :: HZ) w := hs))
          have hs := hs.drew
          have hcyw := hcy.out _ (St.drop (A := [_]) hs)
          refine wp_region_phases [] (wsOf [w.drew]) follows (by kernel_rfl) (by kernel_rfl) rfl ?_
          refine LinP.rd 0 rfl rfl (by kernel_rfl) (by kernel_rfl) (ex_ld_row (w := w.drew) (ev rfl) ag54 (hs.at 0 rfl) (Nat.le_of_ble_eq_true rfl) rfl) (pu rfl (by simp only [List.set_cons_succ, List.set_cons_zero]; rfl)) ?_
          refine LinP.pure rfl rfl (ex_move (ev rfl)) (pu rfl (by simp only [List.set_cons_succ, List.set_cons_zero]; rfl)) ?_
          refine LinP.pure rfl rfl (ex_move (ev rfl)) (pu rfl (by simp only [List.set_cons_succ, List.set_cons_zero]; rfl)) ?_
          refine LinP.pure rfl rfl (ex_indexAddr st44 (ev rfl) (ev rfl) hlt2) (pu rfl (by simp only [List.set_cons_succ, List.set_cons_zero]; rfl)) ?_
          refine LinP.rd 0 rfl rfl (by kernel_rfl) (by kernel_rfl) (ex_ld_c (w := w.drew) (vs := Tok.cells ⟨kd, tx, ya⟩) (ev rfl) ag54 rfl hcyw) (pu rfl (by simp only [List.set_cons_succ, List.set_cons_zero]; rfl)) ?_
          refine LinP.pure rfl rfl (fun w => ex_bin (ev rfl) (ev rfl) (guard_tok _ _ _ ⟨kd, tx, ya⟩ ⟨kd, tx, ya⟩ w) (neq_tok ⟨kd, tx, ya⟩ ⟨kd, tx, ya⟩ w)) (pu rfl (by simp only [List.set_cons_succ, List.set_cons_zero]; rfl)) ?_
          refine LinP.done ?_
          have etb : (!(tokB ⟨kd, tx, ya⟩ ⟨kd, tx, ya⟩)) = false := by rw [tokB_self]; rfl
          rw [etb]
          clear hcyw etb
          go_wp2_with fail
          go_roundg (ys.length - (j + 1))
          case measure => omega
          case rel => exact ⟨j + 1, hlt2, rfl, by go_num, St.drop (A := [_]) hs⟩
        · obtain rfl : j = ys.length := by omega
          have hsf := hid hs.below
          go_wp2_with fail
          go_ret
          exact ⟨rfl, hsf.out⟩
end Go.Proofs.Ytclingkhdmhhoaa

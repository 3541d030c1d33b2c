/- The walk of the reference's Token: strings. No condition. -/
import Derived.Test.YtclingkhdmhhoaaRfB
namespace Go.Proofs.Ytclingkhdmhhoaa
open Go.RowKit
set_option linter.unusedSimpArgs false
set_option linter.unusedVariables false

theorem strL_np {c : UInt8} {cs : List UInt8} (h : plainI c.toNat = false) : strL (c :: cs) = .error 0 := by
  cases cs <;> simp [strL, h]
theorem addT_zero (r : Except Nat (List UInt8 × Nat)) : r = addT [] 0 r := by cases r <;> simp [addT]
def strR (r : Except Nat (List UInt8 × Nat)) : Except Nat (Int × List UInt8 × Nat) := match r with
  | .ok (t, n) => .ok (7, t, n + 1)
  | .error e => .error (e + 1)
theorem sl_ap {w0 w : World} {CT : List (Nat × Obj)} {t : List UInt8} {tv : Value} {A : List (Nat × Obj)} (hsl : Sl 5 1 tv t.length (sv t) CT) {gb : Nat} {y : UInt8} (hs : St w0 [] ((gb, row 5 (sv [y])) :: (A ++ CT)) w) {a : Act} {K : Act → World → Prop} {Q : Exit → Act → World → Prop} {dst : Option Tmp} {ty : TypeId} {pos : String} {aft : Array Edge} {g : Option (Nat × Bool)}
    {i j : Operand} (hi : a.eval i = tv) (hj : a.eval j = .slice (some ⟨gb, 0, none⟩) 1 1) (hb : t.length ≤ 1048576)
    (h : ∀ tv' CT' w', Hid (Sl 5 1 tv' (t ++ [y]).length (sv (t ++ [y])) CT') → St w0 [] (A ++ CT') w' → K (a.put dst tv') w') :
    Oper.wp Try.prog ⟨dst, .call { callee := .builtin .append, args := #[i, j], argTypes := #[43, 43] }, ty, pos, aft, g⟩ a w K Q := by
  have hs2 : St w0 [] (((gb, row 5 (sv [y])) :: A) ++ CT ++ []) w := by simpa using hs
  refine St.appM (m := 1) (l := t) (news := [y]) ((gb, row 5 (sv [y])) :: A) [] hs2 (.inl hsl) hi hj rfl (by decide) ?_ (by omega) ?_
  · intro j u hu
    exact cells_at (hs2.at 0 rfl) j (u8 u) (by simp only [sv, List.getElem?_map, hu]; rfl)
  · intro v' C' w' hs' hsl'
    exact h v' C' w' (hid hsl') (St.drop (A := [(gb, row 5 (sv [y]))]) (by simpa using hs'))

set_option maxHeartbeats 4000000 in
set_option maxRecDepth 100000 in
theorem rtok_str {w0 : World} {v : Value} {l : List UInt8} {p : Nat} {x : UInt8} (hT : Txt w0 [] v l) (hl : l.length ≤ 1048576) (hx : l[p]? = some x) (hk : (x.toNat : Int) = 34) :
    Calls Try.prog 48 #[v, .int .i64 p] w0 (RTok w0 p (strR (strL (l.drop (p + 1))))) := by
  have hs := St.nothing w0
  obtain ⟨A, c, rfl⟩ := hT.bd
  have hlt : p < l.length := (List.getElem?_eq_some_iff.1 hx).1
  obtain ⟨b, o, rfl, hby⟩ := byte_all hT hx
  have hri := rinner_any x
  have hrd := rdigit_any x.toNat
  have q40 : ((x.toNat : Int) == 40) = false := by rw [hk]; rfl
  have q41 : ((x.toNat : Int) == 41) = false := by rw [hk]; rfl
  have q124 : ((x.toNat : Int) == 124) = false := by rw [hk]; rfl
  have q34 : ((x.toNat : Int) == 34) = true := by simpa using hk
  replace hri := hid hri
  replace hrd := hid hrd
  replace hby := hid hby
  replace hT := hid hT
  replace hx := hid hx
  replace hk := hid hk
  go_enter Try.func48, Try.ntmps48
  go_upto_region 1 with (first
    | ((with_reducible refine gd_al ?_); refine wl_of rfl (hs.al zc54 ?_); intro rb w hrb hs))
  have hc := hby.out _ _ hs
  go_upto_region 4 with (first
    | ((with_reducible refine gd_bd ?_); refine wl_of rfl (wp_of_run (ex_build rfl (run_build54p _ _)) ?_))
    | ((with_reducible refine gd_al ?_); refine wl_of rfl (hs.al zc54 ?_); intro tb w htb hs)
    | ((with_reducible refine gd_st (ty := 54) ?_); refine wl_of rfl (hs.sta 0 rfl rfl ag54 (vs := Tok.cells ⟨0, [], p⟩) (by first | exact ev rfl | rfl) rfl (tok_one _) (Nat.le_of_eq rfl) (splice_all rfl) ?_); intro w hs; rw [put_none]; simp only [List.set_cons_zero] at hs))
  replace hs : St w0 [] [(tb, row 54 (Tok.cells ⟨0, [], p⟩)), (rb, row 54 (Tok.cells ⟨0, [], 0⟩))] w := hs
  clear hc
  go_upto_region 20 with (first
    | ((with_reducible refine gd_bs (n := 0) ?_); refine wl_of rfl (hs.bs0 el43 ?_); intro g0 w hg0 hs hsl))
  replace hsl := hid hsl
  replace hs : St w0 [] ((tb, row 54 (Tok.cells ⟨0, [], p⟩)) :: (rb, row 54 (Tok.cells ⟨0, [], 0⟩)) :: [(g0, row 5 [])]) w := hs.perm (by
    exact (List.Perm.swap _ _ _).trans (List.Perm.cons _ (List.Perm.swap _ _ _)))
  go_loopg [9, 10] (l.length - (p + 1)) (fun g iv tv wr => ∃ (m : Nat) (t : List UInt8) (CT : List (Nat × Obj)), iv = .int .i64 m ∧ p + 1 ≤ m ∧ m ≤ l.length ∧ g = l.length - m ∧ t.length ≤ m ∧ Hid (strL (l.drop (p + 1)) = addT t (m - (p + 1)) (strL (l.drop m))) ∧ Hid (Sl 5 1 tv t.length (sv t) CT) ∧
    St w0 [] ((tb, row 54 (Tok.cells ⟨0, [], p⟩)) :: (rb, row 54 (Tok.cells ⟨0, [], 0⟩)) :: CT) wr)
  case atStart => exact ⟨p + 1, [], _, by first | rfl | go_num, Nat.le_refl _, hlt, rfl, Nat.zero_le _, hid (by rw [Nat.sub_self]; exact addT_zero _), hsl, hs⟩
  case round =>
    clear hs hsl
    obtain ⟨m, t, CT, rfl, hm1, hm2, rfl, htm, hR, hsl, hs⟩ := hrel
    by_cases hmlt : m < l.length
    · obtain ⟨y, hy⟩ : ∃ y, l[m]? = some y := ⟨_, List.getElem?_eq_getElem hmlt⟩
      obtain ⟨b2, o2, hbo, hc⟩ := byte_at hT.out hs hy
      cases hbo
      have hdr := skip_cons hy
      have q1e : ((m : Int) == (l.length : Int)) = false := by rw [beq_eq_false_iff_ne]; omega
      have hcl := rplain_any y.toNat
      cases hpl : plainI y.toNat with
      | false =>
        rw [hpl] at hcl
        have hRe : strL (l.drop (p + 1)) = .error (m - (p + 1) + 0) := by rw [hR.out, hdr, strL_np hpl]; rfl
        replace hcl := hid hcl
        replace hpl := hid hpl
        replace hy := hid hy
        replace hdr := hid hdr
        replace hRe := hid hRe
        go_wp2_with (first
          | (go_at_call 75; refine ((hcl).out _).mono ?_; rintro e w' ⟨rfl, rfl⟩)
          | ((with_reducible refine gd_ld (ty := 54) ?_); refine wl_of rfl (hs.lda 0 rfl rfl ag54 (vs := Tok.cells ⟨0, [], p⟩) (Nat.le_of_eq rfl) rfl ?_))
          | ((with_reducible refine gd_st (ty := 54) ?_); refine wl_of rfl (hs.sta 1 rfl rfl ag54 (vs := Tok.cells ⟨0, [], p⟩) (by first | exact ev rfl | rfl) rfl (tok_one _) (Nat.le_of_eq rfl) (splice_all rfl) ?_); intro w hs; rw [put_none]; simp only [List.set_cons_succ, List.set_cons_zero] at hs))
        refine bodyPost_ret (results48 (T := ⟨0, [], p⟩) (hs.at 1 rfl) rfl rfl rfl) rfl ?_
        rw [hRe.out]
        exact rtok_bad (T := ⟨0, [], p⟩) (by omega) hs.void
      | true =>
        rw [hpl] at hcl
        replace hcl := hid hcl
        cases q34b : ((y.toNat : Int) == 34) with
        | false =>
          have hR2 : strL (l.drop (p + 1)) = addT (t ++ [y]) (m + 1 - (p + 1)) (strL (l.drop (m + 1))) := by
            rw [hR.out, hdr, strL_quo (by simp [quoI, hpl, bne, q34b]), addT_addT]
            congr 1; omega
          replace hpl := hid hpl
          replace hy := hid hy
          replace hdr := hid hdr
          replace hR2 := hid hR2
          go_wp2_with (first
            | (go_at_call 75; refine ((hcl).out _).mono ?_; rintro e w' ⟨rfl, rfl⟩)
            | ((with_reducible refine gd_bs (n := 1) ?_); refine wl_of rfl (hs.bsn rfl (fun w => run_bs1b w y) ?_); intro gb w hgb hs)
            | ((with_reducible refine gd_ap ?_); refine wl_of rfl (sl_ap (A := [_, _]) hsl.out hs (by first | exact ev rfl | rfl) (by first | exact ev rfl | rfl) (by omega) ?_); intro tv' CT' w hsl' hs; replace hs : St w0 [] ((tb, row 54 (Tok.cells ⟨0, [], p⟩)) :: (rb, row 54 (Tok.cells ⟨0, [], 0⟩)) :: CT') w := hs))
          go_roundg (l.length - (m + 1))
          case measure => omega
          case rel => exact ⟨m + 1, t ++ [y], CT', by first | rfl | go_num, by omega, hmlt, rfl, by simp; omega, hR2, hsl', hs⟩
        | true =>
          have e34 : (y.toNat : Int) = 34 := by simpa using q34b
          by_cases hm3 : m + 1 < l.length
          · obtain ⟨y2, hy2⟩ : ∃ y, l[m + 1]? = some y := ⟨_, List.getElem?_eq_getElem hm3⟩
            obtain ⟨b3, o3, hbo3, hc2⟩ := byte_at hT.out hs hy2
            cases hbo3
            have q3e : ((m : Int) + 1 == (l.length : Int)) = false := by rw [beq_eq_false_iff_ne]; omega
            cases q34c : ((y2.toNat : Int) == 34) with
            | false =>
              have q34d : ((y2.toNat : Int) != 34) = true := by simp [bne, q34c]
              have hRe : strL (l.drop (p + 1)) = .ok (t, m - (p + 1) + 1) := by
                rw [hR.out, strL_one (by rw [nextI_drop]; simp [nextI, hy, q34b]) (by rw [nextI_drop]; simp [nextI, hy2, q34c])]
                simp [addT]
              replace hRe := hid hRe
              replace hpl := hid hpl
              replace hy := hid hy
              replace hy2 := hid hy2
              replace hdr := hid hdr
              replace e34 := hid e34
              go_wp2_with (first
                | (go_at_call 75; refine ((hcl).out _).mono ?_; rintro e w' ⟨rfl, rfl⟩)
                | ((with_reducible refine gd_st (ty := 3) ?_); refine wl_of rfl (hs.st0 0 rfl rfl (sc_of rfl) (v := .int .i64 7) rfl (by rfl) (Nat.le_of_ble_eq_true rfl) ?_); intro w hs; replace hs : St w0 [] ((tb, row 54 (Tok.cells ⟨7, [], p⟩)) :: (rb, row 54 (Tok.cells ⟨0, [], 0⟩)) :: CT) w := hs)
                | ((with_reducible refine gd_cv ?_); have hv3 := run_txt_string (Mid.txt (.inl hsl.out) hs (fun q hq => by simp [hq])); refine wl_of rfl (wp_of_run (ex_cnv (by first | exact ev rfl | rfl) hv3) ?_); clear hv3)
                | ((with_reducible refine gd_st (ty := 9) ?_); refine wl_of rfl (hs.st0 0 rfl rfl (sc_of rfl) rfl (by rfl) (Nat.le_of_ble_eq_true rfl) ?_); intro w hs; replace hs : St w0 [] ((tb, row 54 (Tok.cells ⟨7, t, p⟩)) :: (rb, row 54 (Tok.cells ⟨0, [], 0⟩)) :: CT) w := hs)
                | ((with_reducible refine gd_ld (ty := 54) ?_); refine wl_of rfl (hs.lda 0 rfl rfl ag54 (vs := Tok.cells ⟨7, t, p⟩) (Nat.le_of_eq rfl) rfl ?_))
                | ((with_reducible refine gd_st (ty := 54) ?_); refine wl_of rfl (hs.sta 1 rfl rfl ag54 (vs := Tok.cells ⟨7, t, p⟩) (by first | exact ev rfl | rfl) rfl (tok_one _) (Nat.le_of_eq rfl) (splice_all rfl) ?_); intro w hs; rw [put_none]; simp only [List.set_cons_succ, List.set_cons_zero] at hs))
              refine bodyPost_ret (results48 (T := ⟨7, t, p⟩) (hs.at 1 rfl) rfl rfl rfl) rfl ?_
              rw [hRe.out]
              exact rtok_good (by omega) hs.void
            | true =>
              have e34b : (y2.toNat : Int) = 34 := by simpa using q34c
              have q34d : ((y2.toNat : Int) != 34) = false := by simp [bne, q34c]
              have ey2 : y2 = 34 := by
                have : y2.toNat = 34 := by omega
                exact UInt8.toNat.inj this
              have hR2 : strL (l.drop (p + 1)) = addT (t ++ [y2]) (m + 2 - (p + 1)) (strL (l.drop (m + 2))) := by
                rw [hR.out, strL_two (by rw [nextI_drop]; simp [nextI, hy, q34b]) (by rw [nextI_drop]; simp [nextI, hy2, q34c]), addT_addT, List.drop_drop, ey2]
                congr 1; omega
              replace hR2 := hid hR2
              replace hpl := hid hpl
              replace hy := hid hy
              replace hy2 := hid hy2
              replace hdr := hid hdr
              replace e34 := hid e34
              replace e34b := hid e34b
              replace ey2 := hid ey2
              go_wp2_with (first
                | (go_at_call 75; refine ((hcl).out _).mono ?_; rintro e w' ⟨rfl, rfl⟩)
                | ((with_reducible refine gd_bs (n := 1) ?_); refine wl_of rfl (hs.bsn rfl (fun w => run_bs1b w y2) ?_); intro gb w hgb hs)
                | ((with_reducible refine gd_ap ?_); refine wl_of rfl (sl_ap (A := [_, _]) hsl.out hs (by first | exact ev rfl | rfl) (by first | exact ev rfl | rfl) (by omega) ?_); intro tv' CT' w hsl' hs; replace hs : St w0 [] ((tb, row 54 (Tok.cells ⟨0, [], p⟩)) :: (rb, row 54 (Tok.cells ⟨0, [], 0⟩)) :: CT') w := hs))
              go_roundg (l.length - (m + 2))
              case measure => omega
              case rel => exact ⟨m + 2, t ++ [y2], CT', by first | rfl | go_num, by omega, hm3, rfl, by simp; omega, hR2, hsl', hs⟩
          · have q3e : ((m : Int) + 1 == (l.length : Int)) = true := by simp; omega
            have hRe : strL (l.drop (p + 1)) = .ok (t, m - (p + 1) + 1) := by
              rw [hR.out, strL_one (by rw [nextI_drop]; simp [nextI, hy, q34b]) (by rw [nextI_drop, nextI, List.getElem?_eq_none (by omega)])]
              simp [addT]
            replace hRe := hid hRe
            replace hpl := hid hpl
            replace hy := hid hy
            replace hdr := hid hdr
            replace e34 := hid e34
            go_wp2_with (first
              | (go_at_call 75; refine ((hcl).out _).mono ?_; rintro e w' ⟨rfl, rfl⟩)
              | ((with_reducible refine gd_st (ty := 3) ?_); refine wl_of rfl (hs.st0 0 rfl rfl (sc_of rfl) (v := .int .i64 7) rfl (by rfl) (Nat.le_of_ble_eq_true rfl) ?_); intro w hs; replace hs : St w0 [] ((tb, row 54 (Tok.cells ⟨7, [], p⟩)) :: (rb, row 54 (Tok.cells ⟨0, [], 0⟩)) :: CT) w := hs)
              | ((with_reducible refine gd_cv ?_); have hv3 := run_txt_string (Mid.txt (.inl hsl.out) hs (fun q hq => by simp [hq])); refine wl_of rfl (wp_of_run (ex_cnv (by first | exact ev rfl | rfl) hv3) ?_); clear hv3)
              | ((with_reducible refine gd_st (ty := 9) ?_); refine wl_of rfl (hs.st0 0 rfl rfl (sc_of rfl) rfl (by rfl) (Nat.le_of_ble_eq_true rfl) ?_); intro w hs; replace hs : St w0 [] ((tb, row 54 (Tok.cells ⟨7, t, p⟩)) :: (rb, row 54 (Tok.cells ⟨0, [], 0⟩)) :: CT) w := hs)
              | ((with_reducible refine gd_ld (ty := 54) ?_); refine wl_of rfl (hs.lda 0 rfl rfl ag54 (vs := Tok.cells ⟨7, t, p⟩) (Nat.le_of_eq rfl) rfl ?_))
              | ((with_reducible refine gd_st (ty := 54) ?_); refine wl_of rfl (hs.sta 1 rfl rfl ag54 (vs := Tok.cells ⟨7, t, p⟩) (by first | exact ev rfl | rfl) rfl (tok_one _) (Nat.le_of_eq rfl) (splice_all rfl) ?_); intro w hs; rw [put_none]; simp only [List.set_cons_succ, List.set_cons_zero] at hs))
            refine bodyPost_ret (results48 (T := ⟨7, t, p⟩) (hs.at 1 rfl) rfl rfl rfl) rfl ?_
            rw [hRe.out]
            exact rtok_good (by omega) hs.void
    · have q1e : ((m : Int) == (l.length : Int)) = true := by simp; omega
      have hRe : strL (l.drop (p + 1)) = .error (m - (p + 1) + 0) := by rw [hR.out, List.drop_eq_nil_of_le (by omega)]; rfl
      replace hRe := hid hRe
      go_wp2_with (first
        | ((with_reducible refine gd_ld (ty := 54) ?_); refine wl_of rfl (hs.lda 0 rfl rfl ag54 (vs := Tok.cells ⟨0, [], p⟩) (Nat.le_of_eq rfl) rfl ?_))
        | ((with_reducible refine gd_st (ty := 54) ?_); refine wl_of rfl (hs.sta 1 rfl rfl ag54 (vs := Tok.cells ⟨0, [], p⟩) (by first | exact ev rfl | rfl) rfl (tok_one _) (Nat.le_of_eq rfl) (splice_all rfl) ?_); intro w hs; rw [put_none]; simp only [List.set_cons_succ, List.set_cons_zero] at hs))
      refine bodyPost_ret (results48 (T := ⟨0, [], p⟩) (hs.at 1 rfl) rfl rfl rfl) rfl ?_
      rw [hRe.out]
      exact rtok_bad (T := ⟨0, [], p⟩) (by omega) hs.void
end Go.Proofs.Ytclingkhdmhhoaa

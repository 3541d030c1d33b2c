/- The walk of the reference's Token, whole, and of its Read. No condition. -/
import Derived.Test.YtclingkhdmhhoaaRfC
import Derived.Test.YtclingkhdmhhoaaRfF
import Derived.Test.YtclingkhdmhhoaaRfE
namespace Go.Proofs.Ytclingkhdmhhoaa
open Go.RowKit
set_option linter.unusedSimpArgs false
set_option linter.unusedVariables false

theorem rtok_eq {w0 : World} {v : Value} {p : Nat} {r r' : Except Nat (Int × List UInt8 × Nat)} (h : Calls Try.prog 48 #[v, .int .i64 p] w0 (RTok w0 p r)) (e : r' = r) : Calls Try.prog 48 #[v, .int .i64 p] w0 (RTok w0 p r') := by subst e; exact h
theorem rtok_num {w0 : World} {v : Value} {l : List UInt8} {p : Nat} {x : UInt8} (hT : Txt w0 [] v l) (hl : l.length ≤ 1048576) (hx : l[p]? = some x) (hd : digitI x.toNat = true) :
    Calls Try.prog 48 #[v, .int .i64 p] w0 (RTok w0 p (numL (l.drop p))) := by
  have hlt : p < l.length := (List.getElem?_eq_some_iff.1 hx).1
  have hdr := skip_cons hx
  have hn : spanN digitI (l.drop p) = spanN digitI (l.drop (p + 1)) + 1 := by rw [hdr]; simp [spanN, hd]
  obtain ⟨z, hz⟩ : ∃ z, p + 1 + spanN digitI (l.drop (p + 1)) = z := ⟨_, rfl⟩
  have hn2 : spanN digitI (l.drop p) = z - p := by omega
  have h0 : nextI (l.drop p) 0 48 = ((x.toNat : Int) == 48) := by rw [hdr]; simp [nextI]
  have hdot : nextI (l.drop p) (z - p) 46 = nextI l z 46 := by rw [nextI_drop, show p + (z - p) = z by omega]
  have hi : ∀ q, p ≤ q → holdsI innerI (l.drop p) (q - p) = holdsI innerI l q := fun q hq => by rw [holdsI_drop, show p + (q - p) = q by omega]
  unfold numL
  rw [hn2, h0, hdot]
  by_cases h48 : (x.toNat : Int) = 48
  · by_cases hzz : p + 1 < z
    · rw [if_pos ⟨by omega, by simpa using h48⟩]
      exact rtok_num_zero hT hl hx h48 hz hzz
    · have hze : z = p + 1 := by omega
      rw [if_neg (fun h => by omega)]
      cases hdt : nextI l z 46 with
      | true =>
        rw [if_pos rfl, List.drop_drop]
        have e1 : p + (z - p + 1) = z + 1 := by omega
        rw [e1]
        obtain ⟨z2, hz2⟩ : ∃ z2, z + 1 + spanN digitI (l.drop (z + 1)) = z2 := ⟨_, rfl⟩
        by_cases h2 : z2 = z + 1
        · rw [if_pos (by omega), show z - p + 1 = z2 - p by omega]
          exact rtok_dot_bad_z hT hl hx h48 hz hze hdt hz2 h2
        · rw [if_neg (by omega), show z - p + 1 + spanN digitI (l.drop (z + 1)) = z2 - p by omega]
          unfold finL
          rw [hi z2 (by omega)]
          cases hh : holdsI innerI l z2 with
          | true => rw [if_pos rfl]; exact rtok_dec_bad_z hT hl hx h48 hz hze hdt hz2 (by omega) hh
          | false => rw [if_neg (by simp)]; exact rtok_dec_ok_z hT hl hx h48 hz hze hdt hz2 (by omega) hh
      | false =>
        rw [if_neg (by simp)]
        unfold finL
        rw [hi z (by omega)]
        cases hh : holdsI innerI l z with
        | true => rw [if_pos rfl]; exact rtok_int_bad_z hT hl hx h48 hz hze hdt hh
        | false => rw [if_neg (by simp)]; exact rtok_int_ok_z hT hl hx h48 hz hze hdt hh
  · rw [if_neg (fun h => h48 (by simpa using h.2))]
    cases hdt : nextI l z 46 with
    | true =>
      rw [if_pos rfl, List.drop_drop]
      have e1 : p + (z - p + 1) = z + 1 := by omega
      rw [e1]
      obtain ⟨z2, hz2⟩ : ∃ z2, z + 1 + spanN digitI (l.drop (z + 1)) = z2 := ⟨_, rfl⟩
      by_cases h2 : z2 = z + 1
      · rw [if_pos (by omega), show z - p + 1 = z2 - p by omega]
        exact rtok_dot_bad_n hT hl hx hd h48 hz hdt hz2 h2
      · rw [if_neg (by omega), show z - p + 1 + spanN digitI (l.drop (z + 1)) = z2 - p by omega]
        unfold finL
        rw [hi z2 (by omega)]
        cases hh : holdsI innerI l z2 with
        | true => rw [if_pos rfl]; exact rtok_dec_bad_n hT hl hx hd h48 hz hdt hz2 (by omega) hh
        | false => rw [if_neg (by simp)]; exact rtok_dec_ok_n hT hl hx hd h48 hz hdt hz2 (by omega) hh
    | false =>
      rw [if_neg (by simp)]
      unfold finL
      rw [hi z (by omega)]
      cases hh : holdsI innerI l z with
      | true => rw [if_pos rfl]; exact rtok_int_bad_n hT hl hx hd h48 hz hdt hh
      | false => rw [if_neg (by simp)]; exact rtok_int_ok_n hT hl hx hd h48 hz hdt hh

theorem rtok_any {w0 : World} {v : Value} {l : List UInt8} {p : Nat} (hT : Txt w0 [] v l) (hl : l.length ≤ 1048576) (hlt : p < l.length) :
    Calls Try.prog 48 #[v, .int .i64 p] w0 (RTok w0 p (tokL (l.drop p))) := by
  obtain ⟨x, hx⟩ : ∃ x, l[p]? = some x := ⟨_, List.getElem?_eq_getElem hlt⟩
  have hdr := skip_cons hx
  rw [tok_of hx]
  unfold tokC
  by_cases h40 : (x.toNat : Int) = 40
  · rw [if_pos h40]; exact rtok_40 hT hl hx h40
  rw [if_neg h40]
  by_cases h41 : (x.toNat : Int) = 41
  · rw [if_pos h41]; exact rtok_41 hT hl hx h41
  rw [if_neg h41]
  by_cases h124 : (x.toNat : Int) = 124
  · rw [if_pos h124]
    obtain ⟨z, hz⟩ : ∃ z, p + 1 + spanN barI (l.drop (p + 1)) = z := ⟨_, rfl⟩
    have hsp : spanN barI (l.drop (p + 1)) = z - (p + 1) := by omega
    rw [nextI_drop, hz]
    cases hb : nextI l z 124 with
    | true => rw [if_pos rfl, hsp, show z - (p + 1) + 2 = z + 1 - p by omega]; exact rtok_bar_ok hT hl hx h124 hz hb
    | false => rw [if_neg (by simp), hsp, show z - (p + 1) + 1 = z - p by omega]; exact rtok_bar_bad hT hl hx h124 hz hb
  rw [if_neg h124]
  cases hd : digitI x.toNat with
  | true =>
    rw [if_pos rfl, ← hdr]
    exact rtok_num hT hl hx hd
  | false =>
    rw [if_neg (by simp)]
    by_cases h58 : (x.toNat : Int) = 58
    · rw [if_pos h58]
      obtain ⟨z, hz⟩ : ∃ z, p + 1 + spanN innerI (l.drop (p + 1)) = z := ⟨_, rfl⟩
      have hsp : spanN innerI (l.drop (p + 1)) = z - (p + 1) := by omega
      rw [hsp]
      by_cases h0 : z - (p + 1) = 0
      · rw [if_pos h0]; exact rtok_key_bad hT hl hx h58 hz (by omega)
      · rw [if_neg h0, show z - (p + 1) + 1 = z - p by omega]; exact rtok_key_ok hT hl hx h58 hz (by omega)
    rw [if_neg h58]
    by_cases h34 : (x.toNat : Int) = 34
    · rw [if_pos h34]
      exact rtok_str hT hl hx h34
    rw [if_neg h34]
    cases hlt2 : letterI x.toNat with
    | true =>
      rw [if_pos rfl]
      have h1 : innerI x.toNat = true := by simp [innerI, hlt2]
      obtain ⟨z, hz⟩ : ∃ z, p + 1 + spanN innerI (l.drop (p + 1)) = z := ⟨_, rfl⟩
      have hsp : spanN innerI (x :: l.drop (p + 1)) = z - p := by
        simp only [spanN, h1, if_true]; omega
      rw [hsp, ← hdr]
      exact rtok_sym hT hl hx h1 hd h40 h41 h124 h34 h58 hz
    | false =>
      rw [if_neg (by simp)]
      exact rtok_none hT hl hx (by simp [innerI, hlt2, hd]) h40 h41 h124 h34 h58

/-- what the reference reads -/
def RRead (w0 : World) (r : Except Nat (List Tok)) (e : Ending) (w' : World) : Prop := match r with
  | .ok ts => ∃ ov CO, e = .returned (.tuple #[ov, .int .i64 (-1)]) ∧ Hid (Sl 54 3 ov ts.length (tcells ts) CO) ∧ St w0 [] CO w'
  | .error k => e = .returned (.tuple #[.slice none 0 0, .int .i64 k]) ∧ St w0 [] [] w'
theorem rtok_ok {w0 : World} {v : Value} {l : List UInt8} {p m : Nat} {kd : Int} {t : List UInt8} (ht : tokL (l.drop p) = .ok (kd, t, m)) (hT : Txt w0 [] v l) (hl : l.length ≤ 1048576) (hlt : p < l.length) :
    Calls Try.prog 48 #[v, .int .i64 p] w0 fun e w' => e = .returned (.tuple #[.agg (Tok.cells ⟨kd, t, p⟩).toArray, .int .i64 ((p + m : Nat) : Int), .int .i64 (-1)]) ∧ St w0 [] [] w' := by
  have := rtok_any hT hl hlt
  rw [ht] at this
  exact this
theorem rtok_no {w0 : World} {v : Value} {l : List UInt8} {p k : Nat} (ht : tokL (l.drop p) = .error k) (hT : Txt w0 [] v l) (hl : l.length ≤ 1048576) (hlt : p < l.length) :
    Calls Try.prog 48 #[v, .int .i64 p] w0 fun e w' => ∃ T : Tok, e = .returned (.tuple #[.agg T.cells.toArray, .int .i64 0, .int .i64 ((p + k : Nat) : Int)]) ∧ St w0 [] [] w' := by
  have := rtok_any hT hl hlt
  rw [ht] at this
  exact this
set_option maxHeartbeats 2000000 in
set_option maxRecDepth 10000 in
theorem rread_c {w0 : World} {v : Value} {l : List UInt8} (hT : Txt w0 [] v l) (hl : l.length ≤ 1048576) : Calls Try.prog 24 #[v] w0 (RRead w0 (readC l 0)) := by
  have hs := St.nothing w0
  obtain ⟨A, c, rfl⟩ := hT.bd
  replace hT := hid hT
  generalize hR : readC l 0 = R
  replace hR := hid hR
  go_enter Try.func24, Try.ntmps24
  go_wp2_with (first
    | ((with_reducible refine gd_bs (n := 0) ?_); refine wl_of rfl (hs.bs0 el44 ?_); intro g0 w hg0 hs hsl; replace hsl := hid hsl)
    | (go_at_call 47; refine (rskip_any (p := 0) (hT.out.now hs) hl (Nat.zero_le _)).mono ?_; rintro e w ⟨p, rfl, hp, hpl, hs'⟩; replace hs := hs.plus hs'; clear hs'; simp only [List.append_nil] at hs))
  go_loopg [4, 5] (l.length + 1 - p) (fun g ov iv wr => ∃ (p : Nat) (out : List Tok) (CO : List (Nat × Obj)), iv = .int .i64 p ∧ g = l.length + 1 - p ∧ p ≤ l.length ∧ out.length ≤ p ∧ Hid (preT out (readD l p) = R) ∧ Hid (Sl 54 3 ov out.length (tcells out) CO) ∧ St w0 [] CO wr)
  case atStart => exact ⟨p, [], _, rfl, rfl, hpl, Nat.zero_le _, hid (by rw [preT_nil, hp.out, ← readD_of (Nat.zero_le _)]; exact hR.out), hsl, hs⟩
  case round =>
    clear hs hp hsl
    obtain ⟨p, out, CO, rfl, rfl, hpl, hop, hR2, hsl, hs⟩ := hrel
    by_cases hlt : p < l.length
    · have q1 : decide (p < l.length) = true := by simpa using hlt
      have hRD : readD l p = match tokL (l.drop p) with
        | .error e => .error (p + e)
        | .ok (kd, t, m) => preT [⟨kd, t, (p : Int)⟩] (readC (l.drop (p + m)) (p + m)) := by unfold readD; rw [if_neg (by omega)]; rfl
      have hbd := tokL_bd (l := l.drop p)
      cases hT0 : tokL (l.drop p) with
      | error k =>
        rw [hT0] at hRD
        have hRe : R = .error (p + k) := by rw [← hR2.out, hRD]; rfl
        subst hRe
        replace hT0 := hid hT0
        have q0 : (0 : Int) ≤ (p : Int) + (k : Int) := by omega
        clear hRD hbd hR2 hR
        go_wp2_with (first
          | (go_at_call 48; refine (rtok_no hT0.out (hT.out.now hs) hl hlt).mono ?_; rintro e w ⟨T, rfl, hs'⟩; replace hs := hs.plus hs'; clear hs'; simp only [List.append_nil] at hs)
          | ((with_reducible refine gd_al ?_); refine wl_of rfl (hs.al zc54 ?_); intro tb w htb hs)
          | ((with_reducible refine gd_st (ty := 54) ?_); refine wl_of rfl (hs.sta 0 rfl rfl ag54 (vs := Tok.cells T) (by first | exact ev rfl | rfl) rfl (tok_one _) (Nat.le_of_eq rfl) (splice_all rfl) ?_); intro w hs; rw [put_none]; simp only [List.set_cons_zero] at hs))
        go_ret2
        exact ⟨rfl, hs.void⟩
      | ok x =>
        obtain ⟨kd, t, m⟩ := x
        rw [hT0] at hRD
        have hm := hbd.1 kd t m hT0
        rw [List.length_drop] at hm
        obtain ⟨hm1, hm2⟩ := hm
        have hpm : p + m ≤ l.length := by omega
        have hRn : preT (out ++ [⟨kd, t, (p : Int)⟩]) (readC (l.drop (p + m)) (p + m)) = R := by rw [← preT_preT, ← hR2.out, hRD]
        replace hRn := hid hRn
        replace hT0 := hid hT0
        have hsn := hid (tcells_snoc out ⟨kd, t, (p : Int)⟩)
        clear hRD hbd hR2 hR
        go_wp2_with (first
          | (go_at_call 48; refine (rtok_ok hT0.out (hT.out.now hs) hl hlt).mono ?_; rintro e w ⟨rfl, hs'⟩; replace hs := hs.plus hs'; clear hs'; simp only [List.append_nil] at hs)
          | (go_at_call 47; refine (rskip_any (p := p + m) (hT.out.now hs) hl hpm).mono ?_; rintro e w ⟨p2, rfl, hp2, hpl2, hs'⟩; replace hs := hs.plus hs'; clear hs'; simp only [List.append_nil] at hs)
          | ((with_reducible refine gd_al ?_); refine wl_of rfl (hs.al zc54 ?_); intro tb w htb hs)
          | ((with_reducible refine gd_st (ty := 54) ?_); refine wl_of rfl (hs.sta 0 rfl rfl ag54 (vs := Tok.cells ⟨kd, t, p⟩) (by first | exact ev rfl | rfl) rfl (tok_one _) (Nat.le_of_eq rfl) (splice_all rfl) ?_); intro w hs; rw [put_none]; simp only [List.set_cons_zero] at hs)
          | ((with_reducible refine gd_ld (ty := 54) ?_); refine wl_of rfl (hs.lda 0 rfl rfl ag54 (vs := Tok.cells ⟨kd, t, p⟩) (Nat.le_of_eq rfl) rfl ?_))
          | ((with_reducible refine gd_bs (n := 1) ?_); refine wl_of rfl (hs.bs1 el44 (by decide) rfl (vs := Tok.cells ⟨kd, t, p⟩) rfl rfl ?_); intro gb w hgb hs; replace hs : St w0 [] ([(gb, row 54 (Tok.cells ⟨kd, t, p⟩)), (tb, row 54 (Tok.cells ⟨kd, t, p⟩))] ++ CO ++ []) w := (by rw [List.append_nil]; exact hs))
          | ((with_reducible refine gd_ap ?_); (refine wl_of rfl (St.app [_, _] [] hs el44 hsl.out (m := 1) (by first | exact ev rfl | rfl) (by first | exact ev rfl | rfl) (news := Tok.cells ⟨kd, t, p⟩) rfl (cells_at (hs.at 0 rfl)) (tok_one _) (by unfold maxLen; omega) (by omega) ?_)); intro ov' CO' w hs hsl'; replace hsl' := hid hsl'; replace hs : St w0 [] CO' w := St.drop (A := [_, _]) (by simpa using hs)))
        have hp3 := hp2.out
        go_roundg (l.length + 1 - p2)
        case measure => omega
        case rel => exact ⟨p2, out ++ [⟨kd, t, (p : Int)⟩], CO', rfl, rfl, hpl2, by simp; omega, hid (by rw [hp3, ← readD_of (by omega)]; exact hRn.out), hid (by simp only [List.length_append, List.length_singleton]; rw [hsn.out]; exact hsl'.out), hs⟩
    · have q1 : decide (p < l.length) = false := by simpa using hlt
      have hRe : R = .ok out := by rw [← hR2.out]; unfold readD; rw [if_pos (by omega)]; simp [preT]
      subst hRe
      go_wp2_with fail
      go_ret2
      exact ⟨_, CO, rfl, hsl, hs⟩
end Go.Proofs.Ytclingkhdmhhoaa

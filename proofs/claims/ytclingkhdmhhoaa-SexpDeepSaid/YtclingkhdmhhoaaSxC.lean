/- Chapter 8: the walk of sexp.Read. No condition. -/
import Derived.Test.YtclingkhdmhhoaaSxB
import Derived.Deep.DeepCutAuto
namespace Go.Proofs.Ytclingkhdmhhoaa
open Go.RowKit
set_option linter.unusedSimpArgs false
set_option linter.unusedVariables false

set_option maxHeartbeats 4000000 in
set_option maxRecDepth 4000 in
theorem sread_any {w0 : World} {tv : Value} {ts : List Tok} (hT : Tks w0 tv ts) (hl : ts.length ≤ 8192) : Calls Try.prog 32 #[tv] w0 (SPost w0 (readS ts)) := by
  have hs := St.nothing w0
  obtain ⟨A, c, rfl, hc, hcc⟩ := hT
  replace hcc := hid hcc
  generalize hR : readS ts = R
  replace hR := hid hR
  go_enter Try.func32, Try.ntmps32
  go_wp2_with (first
    | ((with_reducible refine gd_al ?_); refine wl_of rfl (hs.al (zc_of rfl) ?_); intro rb w hrb hs)
    | ((with_reducible refine gd_bd ?_); refine wl_of rfl (wp_of_run (ex_build rfl (run_build76r _)) ?_))
    | ((with_reducible refine gd_bs ?_); refine wl_of rfl (hs.bs1 el67 (by decide) rfl (vs := ncell true zTok (.slice none 0 0)) rfl rfl ?_); intro g0 w hg0 hs))
  go_loopg [14, 4] ts.length (fun g iv ov wr => ∃ (j : Nat) (x : Nd) (rest : List Nd) (gO cap : Nat) (junk : List Value) (F : List (Nat × Obj)), iv = .int .i64 j ∧ j ≤ ts.length ∧ g = ts.length - j ∧ ov = .slice (some ⟨gO, 0, none⟩) (rest.length + 1) cap ∧
    Hid (Stk F (x :: rest) cap junk) ∧ Hid (∀ n ∈ x :: rest, n.ks.length ≤ j) ∧ Hid (goS (frs (x :: rest)) (ts.drop j) = R) ∧ St w0 [] ((rb, o46) :: (gO, row 76 (ncells (x :: rest) ++ junk)) :: (nblk (x :: rest) ++ F)) wr)
  case atStart =>
    refine ⟨0, ⟨zTok, [], .slice none 0 0, [], []⟩, [], g0, 1, [], [], rfl, Nat.zero_le _, rfl, rfl, hid ⟨?_, rfl, by decide, Nat.le_refl _, by decide⟩, hid (by simp), hid hR.out, ?_⟩
    · intro n hn
      rw [List.mem_singleton.1 hn]
      exact ⟨Sl.nil 76 5, Reps.nil _⟩
    · exact hs.perm (List.Perm.swap _ _ _)
  case round =>
    clear hs
    obtain ⟨j, x, rest, gO, cap, junk, F, rfl, hj, rfl, rfl, hS, hK, hG, hs⟩ := hrel
    have hrest : rest.length ≤ 1000 := by have := hS.out.deep; simpa using this
    have hcapm : cap ≤ 1073741824 ∨ True := .inr trivial
    by_cases hlt : j < ts.length
    · obtain ⟨t, ht⟩ : ∃ t, ts[j]? = some t := ⟨_, List.getElem?_eq_getElem hlt⟩
      obtain ⟨b, o, rfl, hct⟩ : ∃ b o, A = some ⟨b, o, none⟩ ∧ ∀ k u, t.cells[k]? = some u → w0.cell? ⟨b, o + j * 3 + k, none⟩ = some u := by
        rcases hcc.out with h | ⟨b, o, h, hc⟩
        · subst h; simp at hlt
        · exact ⟨b, o, h, fun k u hk => hc j _ ht k u hk⟩
      have hdr : ts.drop j = t :: ts.drop (j + 1) := by
        rw [List.drop_eq_getElem_cons hlt, (List.getElem?_eq_some_iff.1 ht).2]
      have hG2 : goS (frs (x :: rest)) (t :: ts.drop (j + 1)) = R := by rw [← hdr]; exact hG.out
      rw [frs_cons] at hG2
      obtain ⟨n, hn⟩ : ∃ n, rest.length = n := ⟨_, rfl⟩
      have hfl : (frs rest).length = n := by rw [frs_len, hn]
      rw [hn] at hrest ⊢
      replace hct := hid hct
      clear hdr hG
      by_cases h1 : t.kind = 1
      · rw [goS_open h1] at hG2
        have q1 : (t.kind == (1 : Int)) = true := by simp [h1]
        by_cases hd : n = 1000
        · subst hd
          rw [hfl, if_pos rfl] at hG2
          subst hG2
          replace hn := hid hn
          replace hfl := hid hfl
          replace ht := hid ht
          replace h1 := hid h1
          go_wp2_with (first
            | ((with_reducible refine gd_ia (ty := 44) ?_); refine wl_of rfl (wp_of_run (ex_indexAddr st44 (by first | exact ev rfl | rfl) (by first | exact ev rfl | rfl) hlt _) ?_))
            | ((with_reducible refine gd_ld (ty := 54) ?_); first | refine wl_of rfl (wp_of_run (ex_ld_c (vs := t.cells) (by first | exact ev rfl | rfl) ag54 rfl (fun k u hk => hs.out (hct.out k u hk))) ?_) | refine wl_of rfl (hs.lda 0 rfl (by first | exact ev rfl | rfl) ag54 (vs := t.cells) (Nat.le_of_ble_eq_true rfl) rfl ?_))
            | ((with_reducible refine gd_al (ty := 54) ?_); refine wl_of rfl (hs.al (zc_of rfl) ?_); intro tb w htb hs)
            | ((with_reducible refine gd_st (ty := 54) ?_); refine wl_of rfl (hs.sta 0 rfl (by first | exact ev rfl | rfl) ag54 (vs := t.cells) (by first | exact ev rfl | rfl) rfl (tok_one _) (Nat.le_of_ble_eq_true rfl) (splice_all rfl) ?_); intro w hs; rw [put_none]; simp only [List.set_cons_zero] at hs)
            | ((with_reducible refine gd_ld (ty := 3) ?_); refine wl_of rfl (hs.ld 0 rfl (by first | exact ev rfl | rfl) (sc_of rfl) (v := .int .i64 t.kind) rfl ?_))
            | (go_at_call 56; refine (fault_any 18 t _).mono ?_; rintro e w ⟨rfl, hs'⟩; replace hs := hs.plus hs'; rw [List.append_nil] at hs; clear hs')
            | ((with_reducible refine gd_st (ty := 46) ?_); refine wl_of rfl (hs.sta 1 rfl (by first | exact ev rfl | rfl) ag46 (vs := [.int .i64 18, .int .i64 t.at_]) (by first | exact ev rfl | rfl) rfl (by simp [Value.oneCell']) (Nat.le_of_ble_eq_true rfl) (splice_all rfl) ?_); intro w hs; rw [put_none]; simp only [List.set_cons_zero, List.set_cons_succ] at hs))
          refine bodyPost_ret (results32 (b := rb) (ov := .slice none 0 0) (k := 18) (a := t.at_) (hs.at 1 rfl) rfl rfl) rfl ?_
          exact ⟨rfl, hs.void⟩
        · rw [hfl, if_neg hd] at hG2
          have qd : ((n : Int) == (1000 : Int)) = false := by simp; omega
          have hslO : Sl 76 5 (.slice (some ⟨gO, 0, none⟩) (n + 1) cap) (n + 1) (ncells (x :: rest)) [(gO, row 76 (ncells (x :: rest) ++ junk))] :=
            Sl.made (by rw [ncells_len, List.length_cons, hn]) hS.out.len hS.out.capm (by have := hS.out.le; rw [List.length_cons, hn] at this; exact this)
          have hnd : n + 1 + 1 ≤ 1001 := by omega
          replace hn := hid hn
          replace hfl := hid hfl
          replace ht := hid ht
          replace h1 := hid h1
          replace hslO := hid hslO
          replace hG2 := hid hG2
          clear hd
          go_wp2_with (first
            | ((with_reducible refine gd_ia (ty := 44) ?_); refine wl_of rfl (wp_of_run (ex_indexAddr st44 (by first | exact ev rfl | rfl) (by first | exact ev rfl | rfl) hlt _) ?_))
            | ((with_reducible refine gd_ld (ty := 54) ?_); first | refine wl_of rfl (wp_of_run (ex_ld_c (vs := t.cells) (by first | exact ev rfl | rfl) ag54 rfl (fun k u hk => hs.out (hct.out k u hk))) ?_) | refine wl_of rfl (hs.lda 0 rfl (by first | exact ev rfl | rfl) ag54 (vs := t.cells) (Nat.le_of_ble_eq_true rfl) rfl ?_))
            | ((with_reducible refine gd_al (ty := 54) ?_); refine wl_of rfl (hs.al (zc_of rfl) ?_); intro tb w htb hs)
            | ((with_reducible refine gd_st (ty := 54) ?_); refine wl_of rfl (hs.sta 0 rfl (by first | exact ev rfl | rfl) ag54 (vs := t.cells) (by first | exact ev rfl | rfl) rfl (tok_one _) (Nat.le_of_ble_eq_true rfl) (splice_all rfl) ?_); intro w hs; rw [put_none]; simp only [List.set_cons_zero] at hs)
            | ((with_reducible refine gd_ld (ty := 3) ?_); refine wl_of rfl (hs.ld 0 rfl (by first | exact ev rfl | rfl) (sc_of rfl) (v := .int .i64 t.kind) rfl ?_))
            | ((with_reducible refine gd_bd ?_); refine wl_of rfl (wp_of_run (ex_build rfl (run_build76o t _)) ?_))
            | ((with_reducible refine gd_bs ?_); refine wl_of rfl (hs.bs1 el67 (by decide) rfl (vs := ncell true t (.slice none 0 0)) rfl rfl ?_); intro nb w hnb hs)
            | ((with_reducible refine gd_ap ?_); refine wl_of rfl (St.app [_, _, _] (nblk (x :: rest) ++ F) (C := [(gO, row 76 (ncells (x :: rest) ++ junk))]) hs el67 hslO.out (m := 1) (by first | exact ev rfl | rfl) (by first | exact ev rfl | rfl) (news := ncell true t (.slice none 0 0)) rfl (cells_at (hs.at 0 rfl)) (ncell_one rfl) (by unfold maxLen; omega) (by omega) ?_); intro v2 C2 w hs hsl2; obtain ⟨g2, cap2, junk2, rfl, rfl, e1, e2, e3⟩ := hsl2.head (Nat.succ_pos _); clear hsl2; replace e1 := hid e1; replace e2 := hid e2))
          go_roundg (ts.length - (j + 1))
          case measure => omega
          case rel =>
            refine ⟨j + 1, ⟨t, [], .slice none 0 0, [], []⟩, x :: rest, g2, cap2, junk2, F, by go_num, hlt, rfl, by rw [List.length_cons, hn.out], hid ⟨?_, ?_, e2.out, ?_, ?_⟩, hid ?_, hid ?_, ?_⟩
            · intro q hq
              rcases List.mem_cons.1 hq with rfl | hq
              · exact ⟨Sl.nil 76 5, Reps.nil _⟩
              · exact hS.out.ok q hq
            · rw [ncells_cons]; exact e1.out
            · simp only [List.length_cons, hn.out]; exact e3
            · simp only [List.length_cons, hn.out]; exact hnd
            · intro q hq
              rcases List.mem_cons.1 hq with rfl | hq
              · exact Nat.zero_le _
              · exact Nat.le_succ_of_le (hK.out q hq)
            · exact hG2.out
            · rw [ncells_cons]; exact St.drop (A := [_, _]) hs
      · by_cases h2 : t.kind = 2
        · have q1 : (t.kind == (1 : Int)) = false := by simp [h2]
          have q2 : (t.kind == (2 : Int)) = true := by simp [h2]
          cases rest with
          | nil =>
            rw [show frs ([] : List Nd) = [] from rfl, goS_close0 h2] at hG2
            subst hG2
            obtain rfl : n = 0 := hn.symm
            replace hn := hid hn
            replace hfl := hid hfl
            replace ht := hid ht
            replace h1 := hid h1
            replace h2 := hid h2
            go_wp2_with (first
              | ((with_reducible refine gd_ia (ty := 44) ?_); refine wl_of rfl (wp_of_run (ex_indexAddr st44 (by first | exact ev rfl | rfl) (by first | exact ev rfl | rfl) hlt _) ?_))
              | ((with_reducible refine gd_ld (ty := 54) ?_); first | refine wl_of rfl (wp_of_run (ex_ld_c (vs := t.cells) (by first | exact ev rfl | rfl) ag54 rfl (fun k u hk => hs.out (hct.out k u hk))) ?_) | refine wl_of rfl (hs.lda 0 rfl (by first | exact ev rfl | rfl) ag54 (vs := t.cells) (Nat.le_of_ble_eq_true rfl) rfl ?_))
              | ((with_reducible refine gd_al (ty := 54) ?_); refine wl_of rfl (hs.al (zc_of rfl) ?_); intro tb w htb hs)
              | ((with_reducible refine gd_st (ty := 54) ?_); refine wl_of rfl (hs.sta 0 rfl (by first | exact ev rfl | rfl) ag54 (vs := t.cells) (by first | exact ev rfl | rfl) rfl (tok_one _) (Nat.le_of_ble_eq_true rfl) (splice_all rfl) ?_); intro w hs; rw [put_none]; simp only [List.set_cons_zero] at hs)
              | ((with_reducible refine gd_ld (ty := 3) ?_); refine wl_of rfl (hs.ld 0 rfl (by first | exact ev rfl | rfl) (sc_of rfl) (v := .int .i64 t.kind) rfl ?_))
              | (go_at_call 56; refine (fault_any 11 t _).mono ?_; rintro e w ⟨rfl, hs'⟩; replace hs := hs.plus hs'; rw [List.append_nil] at hs; clear hs')
              | ((with_reducible refine gd_st (ty := 46) ?_); refine wl_of rfl (hs.sta 1 rfl (by first | exact ev rfl | rfl) ag46 (vs := [.int .i64 11, .int .i64 t.at_]) (by first | exact ev rfl | rfl) rfl (by simp [Value.oneCell']) (Nat.le_of_ble_eq_true rfl) (splice_all rfl) ?_); intro w hs; rw [put_none]; simp only [List.set_cons_zero, List.set_cons_succ] at hs))
            refine bodyPost_ret (results32 (b := rb) (ov := .slice none 0 0) (k := 11) (a := t.at_) (hs.at 1 rfl) rfl rfl) rfl ?_
            exact ⟨rfl, hs.void⟩
          | cons y r =>
            obtain ⟨m, hm⟩ : ∃ m, r.length = m := ⟨_, rfl⟩
            have hnm : n = m + 1 := by rw [← hn, List.length_cons, hm]
            rw [frs_cons, goS_close h2] at hG2
            have qd : ((n : Int) == (0 : Int)) = false := by simp; omega
            have hx := hS.out.ok x (by simp)
            have hy := hS.out.ok y (by simp)
            have hlen := hS.out.len
            have hle1 : 0 + n * 5 + 5 ≤ (ncells (x :: y :: r) ++ junk).length := by rw [List.length_append, ncells_len]; simp only [List.length_cons, hm]; omega
            have hct5 : cut (ncells (x :: y :: r) ++ junk) (0 + n * 5) 5 = x.cells := by
              have := ncells_cut5 x (y :: r) junk
              rw [hn] at this
              rw [Nat.zero_add]; exact this
            have hrow : ncells (x :: y :: r) ++ junk = ncells (y :: r) ++ (x.cells ++ junk) := by rw [ncells_cons, List.append_assoc]
            have hxone := hx.tree.one
            have hle2 : n + 1 ≤ cap := by have := hS.out.le; rw [List.length_cons, hn] at this; exact this
            have hyk : y.ks.length ≤ 16384 := by have := hK.out y (by simp); omega
            have hvy : ∃ A c, y.v = .slice A y.ks.length c := hy.row.val
            obtain ⟨yA, yc, hyv⟩ := hvy
            have hysl := hy.sl
            replace hn := hid hn
            replace hnm := hid hnm
            replace hm := hid hm
            replace hfl := hid hfl
            replace ht := hid ht
            replace h1 := hid h1
            replace h2 := hid h2
            replace hG2 := hid hG2
            replace hlen := hid hlen
            replace hct5 := hid hct5
            replace hrow := hid hrow
            replace hxone := hid hxone
            replace hyv := hid hyv
            replace hx := hid hx
            replace hy := hid hy
            replace hysl := hid hysl
            go_wp2_with (first
              | ((with_reducible refine gd_al (ty := 76) ?_); refine wl_of rfl (hs.al (zc_of rfl) ?_); intro db w hdb hs)
              | ((with_reducible refine gd_ia (ty := 67) ?_); refine wl_of rfl (wp_of_run (ex_indexAddr st67 (by first | exact ev rfl | rfl) (by first | exact ev rfl | rfl) (Nat.lt_succ_self n) _) ?_))
              | ((with_reducible refine gd_ld (ty := 76) ?_); refine wl_of rfl (hs.lda 2 rfl (by first | exact ev rfl | rfl) ag76 (vs := x.cells) hle1 hct5.out ?_))
              | ((with_reducible refine gd_st (ty := 76) ?_); refine wl_of rfl (hs.sta 0 rfl (by first | exact ev rfl | rfl) ag76 (vs := x.cells) (by first | exact ev rfl | rfl) rfl hxone.out (Nat.le_of_ble_eq_true rfl) (splice_all rfl) ?_); intro w hs; rw [put_none]; simp only [List.set_cons_zero] at hs)
              | ((with_reducible refine gd_sl ?_); refine wl_of rfl (wp_of_run (ex_sl_to (by first | exact ev rfl | rfl) (by first | exact ev rfl | rfl) (run_sl67 (m := n) (n := n + 1) (Nat.le_succ n) hle2)) ?_))
              | ((with_reducible refine gd_ia (ty := 44) ?_); refine wl_of rfl (wp_of_run (ex_indexAddr st44 (by first | exact ev rfl | rfl) (by first | exact ev rfl | rfl) hlt _) ?_))
              | ((with_reducible refine gd_ld (ty := 54) ?_); first | refine wl_of rfl (wp_of_run (ex_ld_c (vs := t.cells) (by first | exact ev rfl | rfl) ag54 rfl (fun k u hk => hs.out (hct.out k u hk))) ?_) | refine wl_of rfl (hs.lda 0 rfl (by first | exact ev rfl | rfl) ag54 (vs := t.cells) (Nat.le_of_ble_eq_true rfl) rfl ?_))
              | ((with_reducible refine gd_al (ty := 54) ?_); refine wl_of rfl (hs.al (zc_of rfl) ?_); intro tb w htb hs)
              | ((with_reducible refine gd_st (ty := 54) ?_); refine wl_of rfl (hs.sta 0 rfl (by first | exact ev rfl | rfl) ag54 (vs := t.cells) (by first | exact ev rfl | rfl) rfl (tok_one _) (Nat.le_of_ble_eq_true rfl) (splice_all rfl) ?_); intro w hs; rw [put_none]; simp only [List.set_cons_zero] at hs)
              | ((with_reducible refine gd_ld (ty := 3) ?_); refine wl_of rfl (hs.ld 0 rfl (by first | exact ev rfl | rfl) (sc_of rfl) (v := .int .i64 t.kind) rfl ?_))
              | fail)
            have hs0 : St w0 [] ([(db, row 76 x.cells), (rb, o46)] ++ (gO, row 76 (ncells (y :: r) ++ (x.cells ++ junk))) :: (y.C ++ (nblk r ++ (x.C ++ F)))) w := by
              have h := St.dropMid (A := [(db, row 76 x.cells)]) (C := [(tb, row 54 t.cells)]) hs
              rw [← hrow.out]
              refine h.perm ?_
              refine List.Perm.append_left [(db, row 76 x.cells)] (List.Perm.cons _ (List.Perm.cons _ ?_))
              rw [nblk_cons, nblk_cons, List.append_assoc]
              refine (List.perm_append_comm_assoc _ _ _).trans ?_
              rw [List.append_assoc]
            replace hs0 := hid hs0
            clear hs
            go_cut [52] (fun v wx => ∃ bb : Bool, v = .bool bb ∧ Hid (St w0 [] ([(db, row 76 x.cells), (rb, o46)] ++ (gO, row 76 (ncells (y :: r) ++ (x.cells ++ junk))) :: (y.C ++ (nblk r ++ (x.C ++ F)))) wx))
            case first =>
              have hs := hs0.out.drew
              refine any_start follows ?_
              refine any_one 0 (by kernel_rfl) rfl rfl ?_
              refine hs.al zc4 ?_
              intro ab w hab hs
              refine any_put (pu rfl (by simp only [List.set_cons_succ, List.set_cons_zero]; rfl)) ?_
              refine any_two 1 2 (by kernel_rfl) rfl rfl rfl rfl ?_ ?_
              · refine hs.st0 0 rfl (ev rfl) (sc_of rfl) evc rfl (Nat.le_of_ble_eq_true rfl) ?_
                intro w hs
                refine any_one 2 (by kernel_rfl) rfl rfl ?_
                refine hs.st0 0 rfl (ev rfl) (sc_of rfl) evc rfl (Nat.le_of_ble_eq_true rfl) ?_
                intro w hs
                refine any_one 3 (by kernel_rfl) rfl rfl ?_
                refine hs.ld 0 rfl (ev rfl) (sc_of rfl) (v := .bool false) rfl ?_
                refine any_put (pu rfl (by simp only [List.set_cons_succ, List.set_cons_zero]; rfl)) ?_
                refine any_done (by kernel_rfl) ?_
                go_wp2
                go_meet
                exact ⟨false, rfl, hid (St.drop (A := [_]) hs)⟩
              · refine hs.st0 0 rfl (ev rfl) (sc_of rfl) evc rfl (Nat.le_of_ble_eq_true rfl) ?_
                intro w hs
                refine any_one 1 (by kernel_rfl) rfl rfl ?_
                refine hs.st0 0 rfl (ev rfl) (sc_of rfl) evc rfl (Nat.le_of_ble_eq_true rfl) ?_
                intro w hs
                refine any_one 3 (by kernel_rfl) rfl rfl ?_
                refine hs.ld 0 rfl (ev rfl) (sc_of rfl) (v := .bool true) rfl ?_
                refine any_put (pu rfl (by simp only [List.set_cons_succ, List.set_cons_zero]; rfl)) ?_
                refine any_done (by kernel_rfl) ?_
                go_wp2
                go_meet
                exact ⟨true, rfl, hid (St.drop (A := [_]) hs)⟩
            case rest =>
              obtain ⟨bb, rfl, hs1⟩ := hcut
              clear hs0
              have hs2 := hs1.out.drew
              have hyf := hy.out.reps.flat
              have hc0 : wc.drew.cell? ⟨gO, 0 + m * 5 + 4, none⟩ = some (.slice yA y.ks.length yc) := by
                rw [row_cell (hs2.at 2 rfl), ← hyv.out, Nat.zero_add, ← hm.out]; exact ncells_v y r _
              have hlt5 : 0 + m * 5 + 4 < (ncells (y :: r) ++ (x.cells ++ junk)).length := by
                rw [List.length_append, ncells_len, List.length_cons, hm.out]; omega
              have hlenO : (ncells (y :: r) ++ (x.cells ++ junk)).length = cap * 5 := by rw [← hrow.out]; exact hlen.out
              have hleO : (y :: r).length ≤ cap := by rw [List.length_cons, hm.out]; have := hnm.out; omega
              have hdO : (y :: r).length ≤ 1001 := by rw [List.length_cons, hm.out]; have := hnm.out; omega
              have hsetO : ∀ v ks css C, (ncells (y :: r) ++ (x.cells ++ junk)).set (0 + m * 5 + 4) v = ncells (⟨y.tok, ks, v, css, C⟩ :: r) ++ (x.cells ++ junk) := by
                intro v ks css C
                have := ncells_set y r (x.cells ++ junk) v ks css C
                rw [hm.out] at this
                rw [Nat.zero_add]; exact this
              have hTree : Rep (x.C ++ F) x.cells (.mk true x.tok x.ks) := hx.out.tree
              have hmn : m < n := by have := hnm.out; omega
              have hn1 : (n : Int) - 1 = (m : Int) := by have := hnm.out; omega
              have hm1 : m ≤ 1073741824 := by omega
              replace hc0 := hid hc0
              replace hlenO := hid hlenO
              replace hsetO := hid hsetO
              replace hyf := hid hyf
              replace hn1 := hid hn1
              cases bb with
              | false =>
                obtain ⟨g', cap', junk', w2, hrun, hs3, f1, f2, f3⟩ := kid_append (Hd := [(db, row 76 x.cells), (rb, o46)]) 67 hs2 hysl.out x.cells rfl hxone.out hyk
                rw [hyv.out] at hrun
                have hc1 : (wc.drew.alloc (row 76 x.cells)).cell? ⟨gO, 0 + m * 5 + 4, none⟩ = some (.slice yA y.ks.length yc) := by
                  rw [row_cell ((hs2.alloc (row 76 x.cells)).at 3 rfl), ← hyv.out, Nat.zero_add, ← hm.out]; exact ncells_v y r _
                have hset := hsetO.out (.slice (some ⟨g', 0, none⟩) (y.ks.length + 1) cap') (y.ks ++ [.mk true x.tok x.ks]) (y.css ++ [x.cells]) [(g', row 76 (y.css.flatten ++ x.cells ++ junk'))]
                have hs4 := hs3.setAt (k := 3) rfl (row 76 (ncells (⟨y.tok, y.ks ++ [.mk true x.tok x.ks], .slice (some ⟨g', 0, none⟩) (y.ks.length + 1) cap', y.css ++ [x.cells], [(g', row 76 (y.css.flatten ++ x.cells ++ junk'))]⟩ :: r) ++ (x.cells ++ junk)))
                have hfin := Stk.put (F' := x.C ++ F) (fun p hp => List.mem_append_right _ hp) (fun q hq => hS.out.ok q (List.mem_cons_of_mem _ hq)) hlenO.out hS.out.capm hleO hdO hTree (g := g') f1 f2 f3
                replace hrun := hid hrun
                replace hc1 := hid hc1
                replace hset := hid hset
                replace hfin := hid hfin
                replace f1 := hid f1
                go_wp2_with fail
                refine wp_region_phases [10, 11, 14] (wsOf [wc.drew, wc.drew.alloc (row 76 x.cells), w2, setBlk w2 gO (row 76 (ncells (⟨y.tok, y.ks ++ [.mk true x.tok x.ks], .slice (some ⟨g', 0, none⟩) (y.ks.length + 1) cap', y.css ++ [x.cells], [(g', row 76 (y.css.flatten ++ x.cells ++ junk'))]⟩ :: r) ++ (x.cells ++ junk)))]) follows (by kernel_rfl) (by kernel_rfl) rfl ?_
                refine LinP.pure rfl rfl (ex_move (ev rfl)) (pu rfl (by simp only [List.set_cons_succ, List.set_cons_zero]; rfl)) ?_
                refine LinP.pure rfl rfl (ex_move (ev rfl)) (pu rfl (by simp only [List.set_cons_succ, List.set_cons_zero]; rfl)) ?_
                refine LinP.pure rfl rfl (fun w => ex_sb3 (c := m) (ev rfl) evc hn1.out hm1 w) (pu rfl (by simp only [List.set_cons_succ, List.set_cons_zero]; rfl)) ?_
                refine LinP.pure rfl rfl (ex_move (ev rfl)) (pu rfl (by simp only [List.set_cons_succ, List.set_cons_zero]; rfl)) ?_
                refine LinP.pure rfl rfl (ex_move (ev rfl)) (pu rfl (by simp only [List.set_cons_succ, List.set_cons_zero]; rfl)) ?_
                refine LinP.pure rfl rfl (fun w => ex_sb3 (c := m) (ev rfl) evc hn1.out hm1 w) (pu rfl (by simp only [List.set_cons_succ, List.set_cons_zero]; rfl)) ?_
                refine LinP.pure rfl rfl (ex_indexAddr st67 (ev rfl) (ev rfl) hmn) (pu rfl (by simp only [List.set_cons_succ, List.set_cons_zero]; rfl)) ?_
                refine LinP.pure rfl rfl (ex_fieldAddr fa76_2 (ev rfl)) (pu rfl (by simp only [List.set_cons_succ, List.set_cons_zero]; rfl)) ?_
                refine LinP.read 0 1 rfl rfl (by kernel_rfl) (by kernel_rfl) (fun p h1 h2 => (by rcases (show p = 0 ∨ p = 1 by omega) with rfl | rfl <;> first | exact ex_ld_s (ev rfl) sc67 hc0.out | exact ex_ld_s (ev rfl) sc67 hc1.out)) (pu rfl (by simp only [List.set_cons_succ, List.set_cons_zero]; rfl)) ?_
                refine LinP.rd 0 rfl rfl (by kernel_rfl) (by kernel_rfl) (ex_ld_row (vs := x.cells) (ev rfl) ag76 (hs2.at 0 rfl) (Nat.le_of_ble_eq_true rfl) rfl) (pu rfl (by simp only [List.set_cons_succ, List.set_cons_zero]; rfl)) ?_
                refine LinP.write 0 rfl rfl (by kernel_rfl) (by kernel_rfl) (ex_buildSlice (vs := [(0, .agg x.cells.toArray)]) rfl (run_bs1 el67 (by decide) rfl rfl)) (pu rfl (by simp only [List.set_cons_succ, List.set_cons_zero]; rfl)) ?_
                refine LinP.write 1 rfl rfl (by kernel_rfl) (by kernel_rfl) (ex_app (ev rfl) (ev rfl) hrun.out) (pu rfl (by simp only [List.set_cons_succ, List.set_cons_zero]; rfl)) ?_
                refine LinP.pure rfl rfl (ex_indexAddr st67 (ev rfl) (ev rfl) hmn) (pu rfl (by simp only [List.set_cons_succ, List.set_cons_zero]; rfl)) ?_
                refine LinP.pure rfl rfl (ex_fieldAddr fa76_2 (ev rfl)) (pu rfl (by simp only [List.set_cons_succ, List.set_cons_zero]; rfl)) ?_
                refine LinP.store 2 rfl rfl (by kernel_rfl) (by kernel_rfl) (ex_st_s (ev rfl) (ev rfl) sc67 (hs3.at 3 rfl) hlt5 rfl hset.out) (pu0 rfl) ?_
                refine LinP.done ?_
                generalize setBlk w2 gO _ = w4 at hs4 ⊢
                go_wp2_with fail
                go_roundg (ts.length - (j + 1))
                case measure => omega
                case rel =>
                  refine ⟨j + 1, _, r, gO, cap, x.cells ++ junk, x.C ++ F, by go_num, hlt, rfl, by rw [hnm.out, hm.out], hid hfin.out, hid ?_, hid hG2.out, by rw [nblk_cons]; exact St.drop (A := [_, _]) hs4⟩
                  intro q hq
                  rcases List.mem_cons.1 hq with rfl | hq
                  · have := hK.out y (by simp)
                    simp only [List.length_append, List.length_singleton]; omega
                  · exact Nat.le_succ_of_le (hK.out q (by simp [hq]))
              | true =>
                obtain ⟨g', cap', junk', w2, hrun, hs3, f1, f2, f3⟩ := kid_append (Hd := [(db, row 76 x.cells), (rb, o46)]) 67 hs2 hysl.out zcell rfl (by simp [zcell, Value.oneCell']) hyk
                rw [hyv.out] at hrun
                have hc1 : (wc.drew.alloc (row 76 zcell)).cell? ⟨gO, 0 + m * 5 + 4, none⟩ = some (.slice yA y.ks.length yc) := by
                  rw [row_cell ((hs2.alloc (row 76 zcell)).at 3 rfl), ← hyv.out, Nat.zero_add, ← hm.out]; exact ncells_v y r _
                have hset := hsetO.out (.slice (some ⟨g', 0, none⟩) (y.ks.length + 1) cap') (y.ks ++ [.mk true x.tok x.ks]) (y.css ++ [x.cells]) [(g', row 76 (y.css.flatten ++ x.cells ++ junk'))]
                have hs4 := hs3.setAt (k := 3) rfl (row 76 (ncells (⟨y.tok, y.ks ++ [.mk true x.tok x.ks], .slice (some ⟨g', 0, none⟩) (y.ks.length + 1) cap', y.css ++ [x.cells], [(g', row 76 (y.css.flatten ++ x.cells ++ junk'))]⟩ :: r) ++ (x.cells ++ junk)))
                have f1' : (y.css.flatten ++ x.cells ++ junk').length = cap' * 5 := by
                  rw [← f1]; simp only [List.length_append, x.cells_len]; rfl
                have hfin := Stk.put (F' := x.C ++ F) (fun p hp => List.mem_append_right _ hp) (fun q hq => hS.out.ok q (List.mem_cons_of_mem _ hq)) hlenO.out hS.out.capm hleO hdO hTree (g := g') f1' f2 f3
                have hle6 : 0 + y.ks.length * 5 + 5 ≤ (y.css.flatten ++ zcell ++ junk').length := by
                  have e := hyf.out
                  have e2 : zcell.length = 5 := rfl
                  simp only [List.length_append, e, e2]; omega
                have hmid : splice (y.css.flatten ++ zcell ++ junk') (0 + y.ks.length * 5) x.cells = y.css.flatten ++ x.cells ++ junk' := splice_mid (by rw [hyf.out, Nat.zero_add]) rfl
                replace hrun := hid hrun
                replace hc1 := hid hc1
                replace hset := hid hset
                replace hfin := hid hfin
                replace f1 := hid f1
                replace f1' := hid f1'
                replace hmid := hid hmid
                go_wp2_with fail
                refine wp_region_phases [11, 12, 15] (wsOf [wc.drew, wc.drew.alloc (row 76 zcell), w2, setBlk w2 gO (row 76 (ncells (⟨y.tok, y.ks ++ [.mk true x.tok x.ks], .slice (some ⟨g', 0, none⟩) (y.ks.length + 1) cap', y.css ++ [x.cells], [(g', row 76 (y.css.flatten ++ x.cells ++ junk'))]⟩ :: r) ++ (x.cells ++ junk)))]) follows (by kernel_rfl) (by kernel_rfl) rfl ?_
                refine LinP.pure rfl rfl (ex_move (ev rfl)) (pu rfl (by simp only [List.set_cons_succ, List.set_cons_zero]; rfl)) ?_
                refine LinP.pure rfl rfl (ex_move (ev rfl)) (pu rfl (by simp only [List.set_cons_succ, List.set_cons_zero]; rfl)) ?_
                refine LinP.pure rfl rfl (fun w => ex_sb3 (c := m) (ev rfl) evc hn1.out hm1 w) (pu rfl (by simp only [List.set_cons_succ, List.set_cons_zero]; rfl)) ?_
                refine LinP.pure rfl rfl (ex_move (ev rfl)) (pu rfl (by simp only [List.set_cons_succ, List.set_cons_zero]; rfl)) ?_
                refine LinP.pure rfl rfl (ex_move (ev rfl)) (pu rfl (by simp only [List.set_cons_succ, List.set_cons_zero]; rfl)) ?_
                refine LinP.pure rfl rfl (fun w => ex_sb3 (c := m) (ev rfl) evc hn1.out hm1 w) (pu rfl (by simp only [List.set_cons_succ, List.set_cons_zero]; rfl)) ?_
                refine LinP.pure rfl rfl (ex_indexAddr st67 (ev rfl) (ev rfl) hmn) (pu rfl (by simp only [List.set_cons_succ, List.set_cons_zero]; rfl)) ?_
                refine LinP.pure rfl rfl (ex_fieldAddr fa76_2 (ev rfl)) (pu rfl (by simp only [List.set_cons_succ, List.set_cons_zero]; rfl)) ?_
                refine LinP.read 0 1 rfl rfl (by kernel_rfl) (by kernel_rfl) (fun p h1 h2 => (by rcases (show p = 0 ∨ p = 1 by omega) with rfl | rfl <;> first | exact ex_ld_s (ev rfl) sc67 hc0.out | exact ex_ld_s (ev rfl) sc67 hc1.out)) (pu rfl (by simp only [List.set_cons_succ, List.set_cons_zero]; rfl)) ?_
                refine LinP.read 0 1 rfl rfl (by kernel_rfl) (by kernel_rfl) (fun p h1 h2 => (by rcases (show p = 0 ∨ p = 1 by omega) with rfl | rfl <;> first | exact ex_ld_row (vs := x.cells) (ev rfl) ag76 (hs2.at 0 rfl) (Nat.le_of_ble_eq_true rfl) rfl | exact ex_ld_row (vs := x.cells) (ev rfl) ag76 ((hs2.alloc (row 76 zcell)).at 1 rfl) (Nat.le_of_ble_eq_true rfl) rfl)) (pu rfl (by simp only [List.set_cons_succ, List.set_cons_zero]; rfl)) ?_
                refine LinP.pure rfl rfl (ex_len67 (ev rfl)) (pu rfl (by simp only [List.set_cons_succ, List.set_cons_zero]; rfl)) ?_
                refine LinP.write 0 rfl rfl (by kernel_rfl) (by kernel_rfl) (ex_buildSlice (vs := [(0, .agg zcell.toArray)]) rfl (run_bs1 el67 (by decide) rfl rfl)) (pu rfl (by simp only [List.set_cons_succ, List.set_cons_zero]; rfl)) ?_
                refine LinP.write 1 rfl rfl (by kernel_rfl) (by kernel_rfl) (ex_app (ev rfl) (ev rfl) hrun.out) (pu rfl (by simp only [List.set_cons_succ, List.set_cons_zero]; rfl)) ?_
                refine LinP.pure rfl rfl (ex_indexAddr st67 (ev rfl) (ev rfl) hmn) (pu rfl (by simp only [List.set_cons_succ, List.set_cons_zero]; rfl)) ?_
                refine LinP.pure rfl rfl (ex_fieldAddr fa76_2 (ev rfl)) (pu rfl (by simp only [List.set_cons_succ, List.set_cons_zero]; rfl)) ?_
                refine LinP.store 2 rfl rfl (by kernel_rfl) (by kernel_rfl) (ex_st_s (ev rfl) (ev rfl) sc67 (hs3.at 3 rfl) hlt5 rfl hset.out) (pu0 rfl) ?_
                refine LinP.done ?_
                generalize setBlk w2 gO _ = w4 at hs4 ⊢
                clear hs2 hs3
                have hs := hs4
                clear hs4
                go_wp2_with (first
                  | ((with_reducible refine gd_ia (ty := 67) ?_); refine wl_of rfl (wp_of_run (ex_indexAddr st67 (by first | exact ev rfl | rfl) (by first | exact ev rfl | rfl) (Nat.lt_succ_self _) _) ?_))
                  | ((with_reducible refine gd_st (ty := 76) ?_); refine wl_of rfl (hs.sta 4 rfl (by first | exact ev rfl | rfl) ag76 (vs := x.cells) (by first | exact ev rfl | rfl) rfl hxone.out hle6 hmid.out ?_); intro w hs; rw [put_none]; simp only [List.set_cons_zero, List.set_cons_succ] at hs))
                go_roundg (ts.length - (j + 1))
                case measure => omega
                case rel =>
                  refine ⟨j + 1, _, r, gO, cap, x.cells ++ junk, x.C ++ F, by go_num, hlt, rfl, by rw [hnm.out, hm.out], hid hfin.out, hid ?_, hid hG2.out, by rw [nblk_cons]; exact St.drop (A := [_, _]) hs⟩
                  intro q hq
                  rcases List.mem_cons.1 hq with rfl | hq
                  · have := hK.out y (by simp)
                    simp only [List.length_append, List.length_singleton]; omega
                  · exact Nat.le_succ_of_le (hK.out q (by simp [hq]))
        · have q1 : (t.kind == (1 : Int)) = false := by simp [h1]
          have q2 : (t.kind == (2 : Int)) = false := by simp [h2]
          rw [goS_leaf h1 h2] at hG2
          have hx := hS.out.ok x (by simp)
          have hlen := hS.out.len
          have hxk : x.ks.length ≤ 16384 := by have := hK.out x (by simp); omega
          obtain ⟨xA, xc, hxv⟩ : ∃ A c, x.v = .slice A x.ks.length c := hx.row.val
          have hxsl := hx.sl
          have hxf := hx.reps.flat
          have hleO : (x :: rest).length ≤ cap := hS.out.le
          have hdO : (x :: rest).length ≤ 1001 := hS.out.deep
          replace hn := hid hn
          replace hfl := hid hfl
          replace ht := hid ht
          replace h1 := hid h1
          replace h2 := hid h2
          replace hG2 := hid hG2
          replace hlen := hid hlen
          replace hxv := hid hxv
          replace hx := hid hx
          replace hxsl := hid hxsl
          replace hxf := hid hxf
          go_wp2_with (first
            | ((with_reducible refine gd_ia (ty := 44) ?_); refine wl_of rfl (wp_of_run (ex_indexAddr st44 (by first | exact ev rfl | rfl) (by first | exact ev rfl | rfl) hlt _) ?_))
            | ((with_reducible refine gd_ld (ty := 54) ?_); first | refine wl_of rfl (wp_of_run (ex_ld_c (vs := t.cells) (by first | exact ev rfl | rfl) ag54 rfl (fun k u hk => hs.out (hct.out k u hk))) ?_) | refine wl_of rfl (hs.lda 0 rfl (by first | exact ev rfl | rfl) ag54 (vs := t.cells) (Nat.le_of_ble_eq_true rfl) rfl ?_))
            | ((with_reducible refine gd_al (ty := 54) ?_); refine wl_of rfl (hs.al (zc_of rfl) ?_); intro tb w htb hs)
            | ((with_reducible refine gd_st (ty := 54) ?_); refine wl_of rfl (hs.sta 0 rfl (by first | exact ev rfl | rfl) ag54 (vs := t.cells) (by first | exact ev rfl | rfl) rfl (tok_one _) (Nat.le_of_ble_eq_true rfl) (splice_all rfl) ?_); intro w hs; rw [put_none]; simp only [List.set_cons_zero] at hs)
            | ((with_reducible refine gd_ld (ty := 3) ?_); refine wl_of rfl (hs.ld 0 rfl (by first | exact ev rfl | rfl) (sc_of rfl) (v := .int .i64 t.kind) rfl ?_))
            | fail)
          have hs2 : St w0 [] ([(tb, row 54 t.cells), (rb, o46)] ++ (gO, row 76 (ncells (x :: rest) ++ junk)) :: (x.C ++ (nblk rest ++ F))) w.drew := by
            have h := hs.drew
            rw [nblk_cons, List.append_assoc] at h
            exact h
          clear hs
          obtain ⟨g', cap', junk', w2, hrun, hs3, f1, f2, f3⟩ := kid_append (Hd := [(tb, row 54 t.cells), (rb, o46)]) 67 hs2 hxsl.out zcell rfl (by simp [zcell, Value.oneCell']) hxk
          rw [hxv.out] at hrun
          generalize hW0 : w.drew = W0 at hs2 hrun hs3
          have hc0 : W0.cell? ⟨gO, 0 + n * 5 + 4, none⟩ = some (.slice xA x.ks.length xc) := by
            rw [row_cell (hs2.at 2 rfl), ← hxv.out, Nat.zero_add, ← hn.out]; exact ncells_v x rest _
          have hc1 : (W0.alloc (row 76 zcell)).cell? ⟨gO, 0 + n * 5 + 4, none⟩ = some (.slice xA x.ks.length xc) := by
            rw [row_cell ((hs2.alloc (row 76 zcell)).at 3 rfl), ← hxv.out, Nat.zero_add, ← hn.out]; exact ncells_v x rest _
          have hset : (ncells (x :: rest) ++ junk).set (0 + n * 5 + 4) (.slice (some ⟨g', 0, none⟩) (x.ks.length + 1) cap') = ncells (⟨x.tok, x.ks ++ [.mk false t []], .slice (some ⟨g', 0, none⟩) (x.ks.length + 1) cap', x.css ++ [ncell false t (.slice none 0 0)], [(g', row 76 (x.css.flatten ++ ncell false t (.slice none 0 0) ++ junk'))]⟩ :: rest) ++ junk := by
            rw [Nat.zero_add, ← hn.out]; exact ncells_set x rest junk _ _ _ _
          have hlt5 : 0 + n * 5 + 4 < (ncells (x :: rest) ++ junk).length := by
            rw [List.length_append, ncells_len, List.length_cons, hn.out]; omega
          have hle6 : 0 + x.ks.length * 5 + 5 ≤ (x.css.flatten ++ zcell ++ junk').length := by
            have e := hxf.out
            have e2 : zcell.length = 5 := rfl
            simp only [List.length_append, e, e2]; omega
          have hmid : splice (x.css.flatten ++ zcell ++ junk') (0 + x.ks.length * 5) (ncell false t (.slice none 0 0)) = x.css.flatten ++ ncell false t (.slice none 0 0) ++ junk' := splice_mid (by rw [hxf.out, Nat.zero_add]) rfl
          have f1' : (x.css.flatten ++ ncell false t (.slice none 0 0) ++ junk').length = cap' * 5 := by
            rw [← f1]; simp only [List.length_append, ncell_len]; rfl
          have hfin := Stk.put (F' := F) (fun p hp => hp) hS.out.ok hlen.out hS.out.capm hleO hdO (leaf_rep F t) (g := g') f1' f2 f3
          have hne : gO ≠ g' := by
            have := hs3.has.nodup
            simp only [List.map_cons, List.cons_append, List.nil_append, List.nodup_cons, List.mem_cons, not_or] at this
            exact this.2.2.2.1.1
          have hsa := hs3.setAt (k := 4) rfl (row 76 (x.css.flatten ++ ncell false t (.slice none 0 0) ++ junk'))
          have hsb := hs3.setAt (k := 3) rfl (row 76 (ncells (⟨x.tok, x.ks ++ [.mk false t []], .slice (some ⟨g', 0, none⟩) (x.ks.length + 1) cap', x.css ++ [ncell false t (.slice none 0 0)], [(g', row 76 (x.css.flatten ++ ncell false t (.slice none 0 0) ++ junk'))]⟩ :: rest) ++ junk))
          have hsab := hsa.setAt (k := 3) rfl (row 76 (ncells (⟨x.tok, x.ks ++ [.mk false t []], .slice (some ⟨g', 0, none⟩) (x.ks.length + 1) cap', x.css ++ [ncell false t (.slice none 0 0)], [(g', row 76 (x.css.flatten ++ ncell false t (.slice none 0 0) ++ junk'))]⟩ :: rest) ++ junk))
          have hcm : setBlk (setBlk w2 gO (row 76 (ncells (⟨x.tok, x.ks ++ [.mk false t []], .slice (some ⟨g', 0, none⟩) (x.ks.length + 1) cap', x.css ++ [ncell false t (.slice none 0 0)], [(g', row 76 (x.css.flatten ++ ncell false t (.slice none 0 0) ++ junk'))]⟩ :: rest) ++ junk))) g' (row 76 (x.css.flatten ++ ncell false t (.slice none 0 0) ++ junk')) = setBlk (setBlk w2 g' (row 76 (x.css.flatten ++ ncell false t (.slice none 0 0) ++ junk'))) gO (row 76 (ncells (⟨x.tok, x.ks ++ [.mk false t []], .slice (some ⟨g', 0, none⟩) (x.ks.length + 1) cap', x.css ++ [ncell false t (.slice none 0 0)], [(g', row 76 (x.css.flatten ++ ncell false t (.slice none 0 0) ++ junk'))]⟩ :: rest) ++ junk)) := setBlk_comm hne _ _
          generalize hOr : row 76 (ncells (⟨x.tok, x.ks ++ [.mk false t []], .slice (some ⟨g', 0, none⟩) (x.ks.length + 1) cap', x.css ++ [ncell false t (.slice none 0 0)], [(g', row 76 (x.css.flatten ++ ncell false t (.slice none 0 0) ++ junk'))]⟩ :: rest) ++ junk) = Or at *
          generalize hLr : row 76 (x.css.flatten ++ ncell false t (.slice none 0 0) ++ junk') = Lr at *
          replace hrun := hid hrun
          replace hc0 := hid hc0
          replace hc1 := hid hc1
          replace hset := hid hset
          replace hfin := hid hfin
          replace hmid := hid hmid
          replace hcm := hid hcm
          replace f1 := hid f1
          replace f1' := hid f1'
          replace hOr := hid hOr
          replace hLr := hid hLr
          refine wp_region_sets [8, 9, 11, 14] (setsOf W0 (W0.alloc (row 76 zcell)) w2 (setBlk w2 g' Lr) (setBlk w2 gO Or) (setBlk (setBlk w2 g' Lr) gO Or) 11) follows (by kernel_rfl) (by kernel_rfl) hW0.symm ?_
          refine LinS.pure rfl rfl (ex_move (ev rfl)) (pu rfl (by simp only [List.set_cons_succ, List.set_cons_zero]; rfl)) ?_
          refine LinS.pure rfl rfl (ex_move (ev rfl)) (pu rfl (by simp only [List.set_cons_succ, List.set_cons_zero]; rfl)) ?_
          refine LinS.pure rfl rfl (ex_indexAddr st67 (ev rfl) (ev rfl) (Nat.lt_succ_self n)) (pu rfl (by simp only [List.set_cons_succ, List.set_cons_zero]; rfl)) ?_
          refine LinS.pure rfl rfl (ex_fieldAddr fa76_2 (ev rfl)) (pu rfl (by simp only [List.set_cons_succ, List.set_cons_zero]; rfl)) ?_
          refine LinS.rd [[8], []] (by kernel_rfl) rfl rfl (in2 (ex_ld_s (ev rfl) sc67 hc1.out) (ex_ld_s (ev rfl) sc67 hc0.out)) (pu rfl (by simp only [List.set_cons_succ, List.set_cons_zero]; rfl)) ?_
          refine LinS.rd [[8], []] (by kernel_rfl) rfl rfl (in2 (ex_ld_row (vs := t.cells) (ev rfl) ag54 ((hs2.alloc (row 76 zcell)).at 1 rfl) (Nat.le_of_ble_eq_true rfl) rfl) (ex_ld_row (vs := t.cells) (ev rfl) ag54 (hs2.at 0 rfl) (Nat.le_of_ble_eq_true rfl) rfl)) (pu rfl (by simp only [List.set_cons_succ, List.set_cons_zero]; rfl)) ?_
          refine LinS.pure rfl rfl (fun w => ex_build rfl (run_build76l t w)) (pu rfl (by simp only [List.set_cons_succ, List.set_cons_zero]; rfl)) ?_
          refine LinS.pure rfl rfl (ex_len67 (ev rfl)) (pu rfl (by simp only [List.set_cons_succ, List.set_cons_zero]; rfl)) ?_
          refine LinS.write [[]] (by kernel_rfl) rfl (in1 (ex_buildSlice (vs := [(0, .agg zcell.toArray)]) rfl (run_bs1 el67 (by decide) rfl rfl))) (pu rfl (by simp only [List.set_cons_succ, List.set_cons_zero]; rfl)) ?_
          refine LinS.write [[8]] (by kernel_rfl) rfl (in1 (ex_app (ev rfl) (ev rfl) hrun.out)) (pu rfl (by simp only [List.set_cons_succ, List.set_cons_zero]; rfl)) ?_
          refine LinS.pure rfl rfl (ex_indexAddr st67 (ev rfl) (ev rfl) (Nat.lt_succ_self _)) (pu rfl (by simp only [List.set_cons_succ, List.set_cons_zero]; rfl)) ?_
          refine LinS.store [[8, 9, 14], [8, 9]] (by kernel_rfl) rfl (in2 ((ex_st_a (ev rfl) (ev rfl) ag76 rfl (hsb.at 4 rfl) hle6 (ncell_one rfl) hmid.out).trans (congrArg (Result.ok Next.skip) (by rw [hLr.out]; exact hcm.out))) ((ex_st_a (ev rfl) (ev rfl) ag76 rfl (hs3.at 4 rfl) hle6 (ncell_one rfl) hmid.out).trans (congrArg (Result.ok Next.skip) (by rw [hLr.out]; rfl)))) (pu0 rfl) ?_
          refine LinS.pure rfl rfl (ex_indexAddr st67 (ev rfl) (ev rfl) (Nat.lt_succ_self n)) (pu rfl (by simp only [List.set_cons_succ, List.set_cons_zero]; rfl)) ?_
          refine LinS.pure rfl rfl (ex_fieldAddr fa76_2 (ev rfl)) (pu rfl (by simp only [List.set_cons_succ, List.set_cons_zero]; rfl)) ?_
          refine LinS.store [[8, 9, 11], [8, 9]] (by kernel_rfl) rfl (in2 ((ex_st_s (ev rfl) (ev rfl) sc67 (hsa.at 3 rfl) hlt5 rfl hset.out).trans (congrArg (Result.ok Next.skip) (by rw [hOr.out]; rfl))) ((ex_st_s (ev rfl) (ev rfl) sc67 (hs3.at 3 rfl) hlt5 rfl hset.out).trans (congrArg (Result.ok Next.skip) (by rw [hOr.out]; rfl)))) (pu0 rfl) ?_
          refine LinS.done ?_
          have hs : St w0 [] _ (setsOf W0 (W0.alloc (row 76 zcell)) w2 (setBlk w2 g' Lr) (setBlk w2 gO Or) (setBlk (setBlk w2 g' Lr) gO Or) 11 [8, 9, 11, 14]) := hsab
          generalize setsOf W0 (W0.alloc (row 76 zcell)) w2 (setBlk w2 g' Lr) (setBlk w2 gO Or) (setBlk (setBlk w2 g' Lr) gO Or) 11 [8, 9, 11, 14] = w4 at hs ⊢
          clear hsa hsb hsab hs2 hs3
          go_wp2_with fail
          go_roundg (ts.length - (j + 1))
          case measure => omega
          case rel =>
            refine ⟨j + 1, _, rest, gO, cap, junk, F, by go_num, hlt, rfl, by rw [hn.out], hid hfin.out, hid ?_, hid hG2.out, ?_⟩
            · intro q hq
              rcases List.mem_cons.1 hq with rfl | hq
              · have := hK.out x (by simp)
                simp only [List.length_append, List.length_singleton]; omega
              · exact Nat.le_succ_of_le (hK.out q (by simp [hq]))
            · have h := St.drop (A := [_, _]) hs
              rw [← hOr.out] at h
              rw [nblk_cons]
              exact h
    · have hR2 : goS (frs (x :: rest)) [] = R := by
        have := hG.out
        rw [List.drop_eq_nil_of_le (by omega)] at this; exact this
      have hlen := hS.out.len
      have hx := hS.out.ok x (by simp)
      cases rest with
      | nil =>
        have hRe : R = .ok x.ks := by rw [← hR2]; rfl
        subst hRe
        have hxv : (ncells [x] ++ junk)[0 + 0 * 5 + 4]? = some x.v := ncells_v x [] junk
        have hxo := hx.row.one
        have hxr := hx.row
        replace hlen := hid hlen
        replace hx := hid hx
        replace hxv := hid hxv
        replace hxo := hid hxo
        replace hR2 := hid hR2
        go_wp2_with (first
          | ((with_reducible refine gd_ia (ty := 67) ?_); refine wl_of rfl (wp_of_run (ex_indexAddr (i := 0) st67 (by first | exact ev rfl | rfl) evc (Nat.zero_lt_succ _) _) ?_))
          | ((with_reducible refine gd_ld (ty := 67) ?_); refine wl_of rfl (hs.ld 1 rfl (by first | exact ev rfl | rfl) (sc_of rfl) (v := x.v) hxv.out ?_))
          | ((with_reducible refine gd_bd ?_); refine wl_of rfl (wp_of_run (ex_build rfl (run_build46z _)) ?_))
          | ((with_reducible refine gd_st (ty := 46) ?_); refine wl_of rfl (hs.sta 0 rfl (by first | exact ev rfl | rfl) ag46 (vs := [.int .i64 0, .int .i64 0]) (by first | exact ev rfl | rfl) rfl (by simp [Value.oneCell']) (Nat.le_of_ble_eq_true rfl) (splice_all rfl) ?_); intro w hs; rw [put_none]; simp only [List.set_cons_zero, List.set_cons_succ] at hs))
        refine bodyPost_ret (results32 (b := rb) (ov := x.v) (k := 0) (a := 0) (hs.at 0 rfl) rfl rfl) rfl ?_
        refine ⟨x.v, x.C ++ F, rfl, hxr, ?_⟩
        have h := St.drop (A := [_, _]) hs
        rw [nblk_cons, show nblk [] = [] from rfl, List.append_nil] at h
        exact h
      | cons y r =>
        have hRe : R = .error (11, x.tok.at_) := by rw [← hR2]; rfl
        subst hRe
        obtain ⟨n, hn⟩ : ∃ n, (y :: r).length = n := ⟨_, rfl⟩
        have hct3 : cut (ncells (x :: y :: r) ++ junk) (n * 5 + 1) 3 = x.tok.cells := by
          have := ncells_cut x (y :: r) junk (o := 1) (n := 3) (by omega)
          rw [hn] at this
          rw [this]; rfl
        have hle1 : n * 5 + 1 + 3 ≤ (ncells (x :: y :: r) ++ junk).length := by
          rw [List.length_append, ncells_len, List.length_cons, hn]; omega
        have hn0 : 0 < n := by rw [← hn]; simp
        rw [hn] at hrest
        rw [hn]
        have qm : decide (0 < n) = true := by simp [hn0]
        replace hlen := hid hlen
        replace hx := hid hx
        replace hR2 := hid hR2
        replace hn := hid hn
        replace hct3 := hid hct3
        go_wp2_with (first
          | ((with_reducible refine gd_ia (ty := 67) ?_); refine wl_of rfl (wp_of_run (ex_indexAddr (i := n) st67 (by first | exact ev rfl | rfl) (by first | exact ev rfl | rfl) (Nat.lt_succ_self _) _) ?_))
          | ((with_reducible refine gd_ld (ty := 54) ?_); refine wl_of rfl (hs.lda 1 rfl (by first | exact ev rfl | rfl) ag54 (vs := x.tok.cells) hle1 hct3.out ?_))
          | (go_at_call 56; refine (fault_any 11 x.tok _).mono ?_; rintro e w ⟨rfl, hs'⟩; replace hs := hs.plus hs'; rw [List.append_nil] at hs; clear hs')
          | ((with_reducible refine gd_st (ty := 46) ?_); refine wl_of rfl (hs.sta 0 rfl (by first | exact ev rfl | rfl) ag46 (vs := [.int .i64 11, .int .i64 x.tok.at_]) (by first | exact ev rfl | rfl) rfl (by simp [Value.oneCell']) (Nat.le_of_ble_eq_true rfl) (splice_all rfl) ?_); intro w hs; rw [put_none]; simp only [List.set_cons_zero, List.set_cons_succ] at hs))
        refine bodyPost_ret (results32 (b := rb) (ov := .slice none 0 0) (k := 11) (a := x.tok.at_) (hs.at 0 rfl) rfl rfl) rfl ?_
        exact ⟨rfl, hs.void⟩
end Go.Proofs.Ytclingkhdmhhoaa

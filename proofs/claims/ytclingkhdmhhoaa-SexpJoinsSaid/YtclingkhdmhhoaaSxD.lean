/- Chapter 8: the walk of the document's answer: list and Read. No condition. -/
import Derived.Test.YtclingkhdmhhoaaSxB
import Derived.Deep.DeepCutAuto
namespace Go.Proofs.Ytclingkhdmhhoaa
open Go.RowKit
set_option linter.unusedSimpArgs false
set_option linter.unusedVariables false

theorem rl_suffix : ∀ (n deep : Nat) (out : List Tr) (ts : List Tok) (o : List Tr) (r : List Tok), rl n deep out ts = .ok (o, r) → r = ts.drop (ts.length - r.length)
  | 0, deep, out, ts, o, r, h => by cases h; simp
  | n + 1, deep, out, [], o, r, h => by cases h; simp
  | n + 1, deep, out, t :: ts, o, r, h => by
    unfold rl at h
    split at h
    · cases h; simp
    · split at h
      · split at h
        · cases h
        · split at h
          · cases h
          · cases h
          · rename_i kids c r2 hr
            have h1 := rl_suffix n _ _ _ _ _ hr
            have h2 := rl_suffix n _ _ _ _ _ h
            have l1 := rl_left n _ _ _ _ _ hr
            have l2 := rl_left n _ _ _ _ _ h
            simp only [List.length_cons] at l1 ⊢
            have e2 : r2 = (c :: r2).drop 1 := rfl
            rw [e2, h1] at h2
            simp only [List.length_drop, List.length_cons, List.drop_drop] at h2
            rw [show ts.length + 1 - r.length = (ts.length - r.length) + 1 by omega, List.drop_succ_cons]
            rw [h2]
            congr 1
            simp only [List.length_drop, List.length_cons]
            omega
      · have h1 := rl_suffix n _ _ _ _ _ h
        have l1 := rl_left n _ _ _ _ _ h
        rw [List.length_cons, show ts.length + 1 - r.length = (ts.length - r.length) + 1 by omega, List.drop_succ_cons]
        exact h1
theorem rl_code : ∀ (n deep : Nat) (out : List Tr) (ts : List Tok) (x : Int × Int), rl n deep out ts = .error x → x.1 ≠ 0
  | 0, deep, out, ts, x, h => by cases h
  | n + 1, deep, out, [], x, h => by cases h
  | n + 1, deep, out, t :: ts, x, h => by
    unfold rl at h
    split at h
    · cases h
    · split at h
      · split at h
        · cases h; simp
        · split at h
          · rename_i e hr
            cases h
            exact rl_code n _ _ _ _ hr
          · cases h; simp
          · exact rl_code n _ _ _ _ h
      · exact rl_code n _ _ _ _ h

def LPost (w0 : World) (N : Nat) (r : Except (Int × Int) (List Tr × List Tok)) (e : Ending) (w' : World) : Prop := match r with
  | .ok x => ∃ (v : Value) (F : List (Nat × Obj)) (en : Nat), e = .returned (.tuple #[v, .int .i64 en, .int .i64 0, .int .i64 0]) ∧ Hid (en = N - x.2.length) ∧ Hid (RowR F v x.1) ∧ St w0 [] F w'
  | .error x => e = .returned (.tuple #[.slice none 0 0, .int .i64 0, .int .i64 x.1, .int .i64 x.2]) ∧ St w0 [] [] w'
theorem results57 {w : World} {v4 v5 v6 v7 : Value} {tmps : Array Value} (t4 : tmps.getD 6 undef = v4) (t5 : tmps.getD 7 undef = v5) (t6 : tmps.getD 8 undef = v6) (t7 : tmps.getD 9 undef = v7) :
    (results Try.f57 tmps).run Try.prog w = .ok (.tuple #[v4, v5, v6, v7]) w := by
  rw [Array.getD_eq_getD_getElem?] at t4 t5 t6 t7
  simp [results, Try.f57, t4, t5, t6, t7]
theorem Tks.at {w : World} {A : Option Addr} {c : Nat} {ts : List Tok} (h : Tks w (.slice A ts.length c) ts) {j : Nat} {t : Tok} (hj : ts[j]? = some t) : ∃ b o, A = some ⟨b, o, none⟩ ∧ ∀ k u, t.cells[k]? = some u → w.cell? ⟨b, o + j * 3 + k, none⟩ = some u := by
  obtain ⟨A', c', e, hc, h3⟩ := h
  cases e
  rcases h3 with h | ⟨b, o, rfl, hcc⟩
  · subst h; simp at hj
  · exact ⟨b, o, rfl, fun k u hk => hcc j t hj k u hk⟩
theorem Tks.via {w0 w : World} {H : List (Nat × Obj)} {v : Value} {ts : List Tok} (h : Tks w0 v ts) (hs : St w0 [] H w) : Tks w v ts := h.same fun p u hc => hs.out hc

set_option maxHeartbeats 4000000 in
set_option maxRecDepth 4000 in
theorem rlist_any : ∀ (n : Nat) {w0 : World} {tv : Value} {ts : List Tok} {i deep : Nat}, Tks w0 tv ts → ts.length ≤ 8192 → i ≤ ts.length → ts.length - i < n → deep ≤ 1000 →
    Calls Try.prog 57 #[tv, .int .i64 i, .int .i64 deep] w0 (LPost w0 ts.length (rl n deep [] (ts.drop i)))
  | 0, _, _, _, _, _, _, _, _, h, _ => by omega
  | n + 1, w0, tv, ts, i, deep, hT, hl, hi, hn, hd => by
    have ih : ∀ (w : World) (a dd : Int) (i : Nat), a = (i : Int) → dd = ((deep + 1 : Nat) : Int) → Tks w tv ts → i ≤ ts.length → ts.length - i < n → deep + 1 ≤ 1000 → Calls Try.prog 57 #[tv, .int .i64 a, .int .i64 dd] w (LPost w ts.length (rl n (deep + 1) [] (ts.drop i))) := by
      intro w a dd i ha hdd h1 h2 h3 h4
      subst ha; subst hdd
      exact rlist_any n h1 hl h2 h3 h4
    obtain ⟨A, c, rfl⟩ : ∃ A c, tv = .slice A ts.length c := by obtain ⟨A, c, h, _⟩ := hT; exact ⟨A, c, h⟩
    have hs := St.nothing w0
    generalize hR : rl (n + 1) deep [] (ts.drop i) = R
    replace hR := hid hR
    replace ih := hid ih
    replace hT := hid hT
    go_enter Try.func57, Try.ntmps57
    go_wp2_with (first
      | ((with_reducible refine gd_bs (n := 0) ?_); refine wl_of rfl (hs.bs0 el67 ?_); intro g0 w hg0 hs hsl))
    go_loopg [1, 10] (ts.length - i) (fun g iv ov wr => ∃ (j m : Nat) (ks : List Tr) (css : List (List Value)) (C F : List (Nat × Obj)), iv = .int .i64 j ∧ j ≤ ts.length ∧ g = ts.length - j ∧ m ≤ n + 1 ∧ ts.length - j < m ∧
      Hid (Sl 76 5 ov ks.length css.flatten C) ∧ Hid (Reps F css ks) ∧ ks.length ≤ j ∧ Hid (rl m deep ks (ts.drop j) = R) ∧ St w0 [] (C ++ F) wr)
    case atStart => exact ⟨i, n + 1, [], [], _, [], rfl, hi, rfl, Nat.le_refl _, hn, hid hsl, hid (Reps.nil _), Nat.zero_le _, hR, hs⟩
    case round =>
      clear hs hsl
      obtain ⟨j, m, ks, css, C, F, rfl, hj, rfl, hm, hjm, hsl, hrp, hkj, hG, hs⟩ := hrel
      by_cases hlt : j < ts.length
      · obtain ⟨t, ht⟩ : ∃ t, ts[j]? = some t := ⟨_, List.getElem?_eq_getElem hlt⟩
        obtain ⟨b, o, rfl, hct⟩ := hT.out.at ht
        have hdr : ts.drop j = t :: ts.drop (j + 1) := by
          rw [List.drop_eq_getElem_cons hlt, (List.getElem?_eq_some_iff.1 ht).2]
        obtain ⟨m', rfl⟩ : ∃ m', m = m' + 1 := ⟨m - 1, by omega⟩
        have hG2 : rl (m' + 1) deep ks (t :: ts.drop (j + 1)) = R := by rw [← hdr]; exact hG.out
        have c0 : w0.cell? ⟨b, o + j * 3, none⟩ = some (.int .i64 t.kind) := hct 0 _ rfl
        have c2 : w0.cell? ⟨b, o + j * 3 + 2, none⟩ = some (.int .i64 t.at_) := hct 2 _ rfl
        have qj : decide (j < ts.length) = true := by simpa using hlt
        replace hct := hid hct
        replace c0 := hid c0
        replace c2 := hid c2
        replace ht := hid ht
        by_cases h2 : t.kind = 2
        · have hRe : R = .ok (ks, ts.drop j) := by rw [← hG2, hdr]; unfold rl; rw [if_pos h2]
          subst hRe
          have q2 : (t.kind == (2 : Int)) = true := by simp [h2]
          have q2n : (t.kind != (2 : Int)) = false := by simp [h2]
          replace h2 := hid h2
          replace hdr := hid hdr
          replace hG2 := hid hG2
          go_wp2_with (first
            | ((with_reducible refine gd_ia (ty := 44) ?_); first | refine wl_on rfl (wp_of_run (ex_indexAddr st44 (by first | exact ev rfl | rfl) (by first | exact ev rfl | rfl) hlt _) ?_) | refine wl_of rfl (wp_of_run (ex_indexAddr st44 (by first | exact ev rfl | rfl) (by first | exact ev rfl | rfl) hlt _) ?_))
            | ((with_reducible refine gd_ld (ty := 3) ?_); first | refine wl_on rfl (wp_of_run (ex_ld_s (by first | exact ev rfl | rfl) (sc_of rfl) (hs.out c0.out)) ?_) | refine wl_of rfl (wp_of_run (ex_ld_s (by first | exact ev rfl | rfl) (sc_of rfl) (hs.out c0.out)) ?_))
            | ((with_reducible refine gd_ld (ty := 54) ?_); refine wl_of rfl (wp_of_run (ex_ld_c (vs := t.cells) (by first | exact ev rfl | rfl) ag54 rfl (fun k u hk => hs.out (hct.out k u hk))) ?_))
            | fail)
          refine bodyPost_ret (results57 rfl rfl rfl rfl) rfl ?_
          refine ⟨_, C ++ F, j, rfl, hid ?_, hid ?_, hs⟩
          · rw [List.length_drop]; omega
          · exact hsl.out.rowr (hrp.out.mono fun p hp => List.mem_append_right _ hp) fun p hp => List.mem_append_left _ hp
        · have q2n : (t.kind != (2 : Int)) = true := by simp [h2]
          have hx1 : ts.length - (j + 1) < m' := by omega
          by_cases h1 : t.kind = 1
          · have q1n : (t.kind != (1 : Int)) = false := by simp [h1]
            by_cases hdd : deep = 1000
            · have hRe : R = .error (18, t.at_) := by rw [← hG2]; unfold rl; rw [if_neg h2, if_pos h1, if_pos hdd]
              subst hRe
              subst hdd
              replace h1 := hid h1
              replace h2 := hid h2
              replace hdr := hid hdr
              replace hG2 := hid hG2
              go_wp2_with (first
                | ((with_reducible refine gd_ia (ty := 44) ?_); first | refine wl_on rfl (wp_of_run (ex_indexAddr st44 (by first | exact ev rfl | rfl) (by first | exact ev rfl | rfl) hlt _) ?_) | refine wl_of rfl (wp_of_run (ex_indexAddr st44 (by first | exact ev rfl | rfl) (by first | exact ev rfl | rfl) hlt _) ?_))
                | ((with_reducible refine gd_ld (ty := 3) ?_); first | refine wl_on rfl (wp_of_run (ex_ld_s (by first | exact ev rfl | rfl) (sc_of rfl) (hs.out c0.out)) ?_) | refine wl_of rfl (wp_of_run (ex_ld_s (by first | exact ev rfl | rfl) (sc_of rfl) (hs.out c0.out)) ?_))
                | ((with_reducible refine gd_ld (ty := 54) ?_); refine wl_of rfl (wp_of_run (ex_ld_c (vs := t.cells) (by first | exact ev rfl | rfl) ag54 rfl (fun k u hk => hs.out (hct.out k u hk))) ?_))
                | fail)
              refine wp_region_phases [] (wsOf [World.drew _]) follows (by kernel_rfl) (by kernel_rfl) rfl ?_
              refine LinP.pure rfl rfl (ex_move (ev rfl)) (pu rfl (by simp only [List.set_cons_succ, List.set_cons_zero]; rfl)) ?_
              refine LinP.pure rfl rfl (ex_move (ev rfl)) (pu rfl (by simp only [List.set_cons_succ, List.set_cons_zero]; rfl)) ?_
              refine LinP.pure rfl rfl (ex_indexAddr st44 (ev rfl) (ev rfl) hlt) (pu rfl (by simp only [List.set_cons_succ, List.set_cons_zero]; rfl)) ?_
              refine LinP.pure rfl rfl (ex_fieldAddr fa54_2 (ev rfl)) (pu rfl (by simp only [List.set_cons_succ, List.set_cons_zero]; rfl)) ?_
              refine LinP.rd 0 rfl rfl (by kernel_rfl) (by kernel_rfl) (ex_ld_s (ev rfl) (sc_of rfl) (hs.drew.out c2.out)) (pu rfl (by simp only [List.set_cons_succ, List.set_cons_zero]; rfl)) ?_
              refine LinP.pure rfl rfl (ex_assign evc) (pu rfl (by simp only [List.set_cons_succ, List.set_cons_zero]; rfl)) ?_
              refine LinP.pure rfl rfl (ex_assign evc) (pu rfl (by simp only [List.set_cons_succ, List.set_cons_zero]; rfl)) ?_
              refine LinP.pure rfl rfl (ex_assign evc) (pu rfl (by simp only [List.set_cons_succ, List.set_cons_zero]; rfl)) ?_
              refine LinP.pure rfl rfl (ex_assign (ev rfl)) (pu rfl (by simp only [List.set_cons_succ, List.set_cons_zero]; rfl)) ?_
              refine LinP.done ?_
              go_wp2_with fail
              refine bodyPost_ret (results57 rfl rfl rfl rfl) rfl ?_
              exact ⟨rfl, hs.drew.void⟩
            · have hfu := rl_fuel m' n (deep + 1) [] (ts.drop (j + 1)) (by rw [List.length_drop]; exact hx1) (by rw [List.length_drop]; omega)
              have qd : ((deep : Int) == (1000 : Int)) = false := by simp; omega
              have hcall := fun w h => ih.out w ((j : Int) + 1) ((deep : Int) + 1) (j + 1) (by omega) (by omega) h hlt (by omega) (by omega)
              unfold rl at hG2
              rw [if_neg h2, if_pos h1, if_neg hdd, hfu] at hG2
              have hsuf := rl_suffix n (deep + 1) [] (ts.drop (j + 1))
              have hlef := rl_left n (deep + 1) [] (ts.drop (j + 1))
              have hcod := rl_code n (deep + 1) [] (ts.drop (j + 1))
              have hdb : deep + 1 ≤ 1000 := by omega
              generalize rl n (deep + 1) [] (ts.drop (j + 1)) = R1 at hG2 hcall hsuf hlef hcod
              replace hcall := hid hcall
              replace h1 := hid h1
              replace h2 := hid h2
              replace hdr := hid hdr
              clear hfu hdd
              cases R1 with
              | error x =>
                have hRe : R = .error x := hG2.symm
                subst hRe
                have qx : (x.1 != (0 : Int)) = true := by have := hcod x rfl; simp [this]
                replace hG2 := hid hG2
                clear hsuf hlef hcod
                go_wp2_with (first
                | (go_at_call 57; refine (hcall.out _ (hT.out.via hs)).mono ?_; rintro e w ⟨rfl, hs'⟩; replace hs := hs.plus hs'; rw [List.append_nil] at hs; clear hs')
                  | ((with_reducible refine gd_ia (ty := 44) ?_); first | refine wl_on rfl (wp_of_run (ex_indexAddr st44 (by first | exact ev rfl | rfl) (by first | exact ev rfl | rfl) hlt _) ?_) | refine wl_of rfl (wp_of_run (ex_indexAddr st44 (by first | exact ev rfl | rfl) (by first | exact ev rfl | rfl) hlt _) ?_))
                  | ((with_reducible refine gd_ld (ty := 3) ?_); first | refine wl_on rfl (wp_of_run (ex_ld_s (by first | exact ev rfl | rfl) (sc_of rfl) (hs.out c0.out)) ?_) | refine wl_of rfl (wp_of_run (ex_ld_s (by first | exact ev rfl | rfl) (sc_of rfl) (hs.out c0.out)) ?_))
                  | ((with_reducible refine gd_ld (ty := 54) ?_); refine wl_of rfl (wp_of_run (ex_ld_c (vs := t.cells) (by first | exact ev rfl | rfl) ag54 rfl (fun k u hk => hs.out (hct.out k u hk))) ?_))
                  | fail)
                refine bodyPost_ret (results57 rfl rfl rfl rfl) rfl ?_
                exact ⟨rfl, hs.void⟩
              | ok x =>
                obtain ⟨kids, rs⟩ := x
                have hlr := hlef kids rs rfl
                have hsu := hsuf kids rs rfl
                rw [List.length_drop] at hlr hsu
                rw [List.drop_drop] at hsu
                clear hsuf hlef hcod
                cases rs with
                | nil =>
                  have hRe : R = .error (11, t.at_) := hG2.symm
                  subst hRe
                  replace hG2 := hid hG2
                  replace hsu := hid hsu
                  go_wp2_with (first
                  | (go_at_call 57; refine (hcall.out _ (hT.out.via hs)).mono ?_; rintro e w ⟨kv, F1, en, rfl, hen, hkr, hs'⟩; obtain rfl : en = ts.length := hen.out; replace hs := hs.plus hs'; clear hs')
                    | ((with_reducible refine gd_ia (ty := 44) ?_); first | refine wl_on rfl (wp_of_run (ex_indexAddr st44 (by first | exact ev rfl | rfl) (by first | exact ev rfl | rfl) hlt _) ?_) | refine wl_of rfl (wp_of_run (ex_indexAddr st44 (by first | exact ev rfl | rfl) (by first | exact ev rfl | rfl) hlt _) ?_))
                    | ((with_reducible refine gd_ld (ty := 3) ?_); first | refine wl_on rfl (wp_of_run (ex_ld_s (by first | exact ev rfl | rfl) (sc_of rfl) (hs.out c0.out)) ?_) | refine wl_of rfl (wp_of_run (ex_ld_s (by first | exact ev rfl | rfl) (sc_of rfl) (hs.out c0.out)) ?_))
                    | ((with_reducible refine gd_ld (ty := 54) ?_); refine wl_of rfl (wp_of_run (ex_ld_c (vs := t.cells) (by first | exact ev rfl | rfl) ag54 rfl (fun k u hk => hs.out (hct.out k u hk))) ?_))
                    | fail)
                  refine wp_region_phases [] (wsOf [World.drew _]) follows (by kernel_rfl) (by kernel_rfl) rfl ?_
                  refine LinP.pure rfl rfl (ex_move (ev rfl)) (pu rfl (by simp only [List.set_cons_succ, List.set_cons_zero]; rfl)) ?_
                  refine LinP.pure rfl rfl (ex_move (ev rfl)) (pu rfl (by simp only [List.set_cons_succ, List.set_cons_zero]; rfl)) ?_
                  refine LinP.pure rfl rfl (ex_indexAddr st44 (ev rfl) (ev rfl) hlt) (pu rfl (by simp only [List.set_cons_succ, List.set_cons_zero]; rfl)) ?_
                  refine LinP.pure rfl rfl (ex_fieldAddr fa54_2 (ev rfl)) (pu rfl (by simp only [List.set_cons_succ, List.set_cons_zero]; rfl)) ?_
                  refine LinP.rd 0 rfl rfl (by kernel_rfl) (by kernel_rfl) (ex_ld_s (ev rfl) (sc_of rfl) (hs.drew.out c2.out)) (pu rfl (by simp only [List.set_cons_succ, List.set_cons_zero]; rfl)) ?_
                  refine LinP.pure rfl rfl (ex_assign evc) (pu rfl (by simp only [List.set_cons_succ, List.set_cons_zero]; rfl)) ?_
                  refine LinP.pure rfl rfl (ex_assign evc) (pu rfl (by simp only [List.set_cons_succ, List.set_cons_zero]; rfl)) ?_
                  refine LinP.pure rfl rfl (ex_assign evc) (pu rfl (by simp only [List.set_cons_succ, List.set_cons_zero]; rfl)) ?_
                  refine LinP.pure rfl rfl (ex_assign (ev rfl)) (pu rfl (by simp only [List.set_cons_succ, List.set_cons_zero]; rfl)) ?_
                  refine LinP.done ?_
                  go_wp2_with fail
                  refine bodyPost_ret (results57 rfl rfl rfl rfl) rfl ?_
                  exact ⟨rfl, hs.drew.void⟩
                | cons cl r' =>
                  simp only [List.length_cons] at hlr
                  have hb1 : ts.length - (r'.length + 1) < ts.length := by omega
                  have hr' : r' = ts.drop (ts.length - (r'.length + 1) + 1) := by
                    have e : j + 1 + (ts.length - (j + 1) - (cl :: r').length) = ts.length - (r'.length + 1) := by simp only [List.length_cons]; omega
                    rw [e] at hsu
                    have := congrArg (List.drop 1) hsu
                    rw [List.drop_drop] at this
                    exact this
                  have hb2 : j + 1 ≤ ts.length - (r'.length + 1) := by omega
                  obtain ⟨en0, hen0⟩ : ∃ en0, ts.length - (r'.length + 1) = en0 := ⟨_, rfl⟩
                  rw [hen0] at hb1 hb2 hr'
                  have qe : ((en0 : Int) == (ts.length : Int)) = false := by simp; omega
                  replace hen0 := hid hen0
                  replace hr' := hid hr'
                  replace hG2 := hid hG2
                  replace hsu := hid hsu
                  clear hlr
                  go_wp2_with (first
                  | (go_at_call 57; refine (hcall.out _ (hT.out.via hs)).mono ?_; rintro e w ⟨kv, F1, en, rfl, hen, hkr, hs'⟩; obtain rfl : en = en0 := hen.out.trans hen0.out; replace hs := hs.plus hs'; clear hs'; obtain ⟨kA, kc, rfl⟩ := hkr.out.val)
                    | ((with_reducible refine gd_ia (ty := 44) ?_); first | refine wl_on rfl (wp_of_run (ex_indexAddr st44 (by first | exact ev rfl | rfl) (by first | exact ev rfl | rfl) hlt _) ?_) | refine wl_of rfl (wp_of_run (ex_indexAddr st44 (by first | exact ev rfl | rfl) (by first | exact ev rfl | rfl) hlt _) ?_))
                    | ((with_reducible refine gd_ld (ty := 3) ?_); first | refine wl_on rfl (wp_of_run (ex_ld_s (by first | exact ev rfl | rfl) (sc_of rfl) (hs.out c0.out)) ?_) | refine wl_of rfl (wp_of_run (ex_ld_s (by first | exact ev rfl | rfl) (sc_of rfl) (hs.out c0.out)) ?_))
                    | ((with_reducible refine gd_ld (ty := 54) ?_); refine wl_of rfl (wp_of_run (ex_ld_c (vs := t.cells) (by first | exact ev rfl | rfl) ag54 rfl (fun k u hk => hs.out (hct.out k u hk))) ?_))
                  | ((with_reducible refine gd_bd ?_); refine wl_of rfl (wp_of_run (ex_build rfl (run_build76k t _ _ _ _)) ?_))
                  | ((with_reducible refine gd_bs (n := 1) ?_); refine wl_of rfl (hs.bs1 el67 (by decide) rfl (vs := ncell true t (.slice kA kids.length kc)) rfl rfl ?_); intro nb w hnb hs; replace hs : St w0 [] ([(nb, row 76 (ncell true t (.slice kA kids.length kc)))] ++ C ++ (F ++ F1)) w := (by rw [← List.append_assoc]; exact hs))
                  | ((with_reducible refine gd_ap ?_); refine wl_of rfl (St.app [_] (F ++ F1) hs el67 hsl.out (m := 1) (by first | exact ev rfl | rfl) (by first | exact ev rfl | rfl) (news := ncell true t (.slice kA kids.length kc)) rfl (cells_at (hs.at 0 rfl)) (ncell_one rfl) (by unfold maxLen; omega) (by omega) ?_); intro v2 C2 w hs hsl2; replace hsl2 := hid hsl2))
                  go_roundg (ts.length - (en + 1))
                  case measure => omega
                  case rel =>
                    refine ⟨en + 1, m', ks ++ [.mk true t kids], css ++ [ncell true t (.slice kA kids.length kc)], C2, F ++ F1, by go_num, hb1, rfl, by omega, by omega, hid ?_, hid ?_, ?_, hid ?_, St.drop (A := [_]) hs⟩
                    · rw [List.length_append, flatten_snoc]; exact hsl2.out
                    · exact (hrp.out.mono fun p hp => List.mem_append_left _ hp).snoc ((hkr.out.mono fun p hp => List.mem_append_right _ hp).tree true t)
                    · rw [List.length_append, List.length_singleton]; omega
                    · rw [← hr'.out]; exact hG2.out
          · have q1n : (t.kind != (1 : Int)) = true := by simp [h1]
            unfold rl at hG2
            rw [if_neg h2, if_neg h1] at hG2
            replace h1 := hid h1
            replace h2 := hid h2
            replace hdr := hid hdr
            replace hG2 := hid hG2
            go_wp2_with (first
              | ((with_reducible refine gd_ia (ty := 44) ?_); first | refine wl_on rfl (wp_of_run (ex_indexAddr st44 (by first | exact ev rfl | rfl) (by first | exact ev rfl | rfl) hlt _) ?_) | refine wl_of rfl (wp_of_run (ex_indexAddr st44 (by first | exact ev rfl | rfl) (by first | exact ev rfl | rfl) hlt _) ?_))
              | ((with_reducible refine gd_ld (ty := 3) ?_); first | refine wl_on rfl (wp_of_run (ex_ld_s (by first | exact ev rfl | rfl) (sc_of rfl) (hs.out c0.out)) ?_) | refine wl_of rfl (wp_of_run (ex_ld_s (by first | exact ev rfl | rfl) (sc_of rfl) (hs.out c0.out)) ?_))
              | ((with_reducible refine gd_ld (ty := 54) ?_); refine wl_of rfl (wp_of_run (ex_ld_c (vs := t.cells) (by first | exact ev rfl | rfl) ag54 rfl (fun k u hk => hs.out (hct.out k u hk))) ?_))
              | ((with_reducible refine gd_bd ?_); refine wl_of rfl (wp_of_run (ex_build rfl (run_build76l t _)) ?_))
              | ((with_reducible refine gd_bs (n := 1) ?_); refine wl_of rfl (hs.bs1 el67 (by decide) rfl (vs := ncell false t (.slice none 0 0)) rfl rfl ?_); intro nb w hnb hs; replace hs : St w0 [] ([(nb, row 76 (ncell false t (.slice none 0 0)))] ++ C ++ F) w := hs)
              | ((with_reducible refine gd_ap ?_); refine wl_of rfl (St.app [_] F hs el67 hsl.out (m := 1) (by first | exact ev rfl | rfl) (by first | exact ev rfl | rfl) (news := ncell false t (.slice none 0 0)) rfl (cells_at (hs.at 0 rfl)) (ncell_one rfl) (by unfold maxLen; omega) (by omega) ?_); intro v2 C2 w hs hsl2; replace hsl2 := hid hsl2))
            go_roundg (ts.length - (j + 1))
            case measure => omega
            case rel =>
              refine ⟨j + 1, m', ks ++ [.mk false t []], css ++ [ncell false t (.slice none 0 0)], C2, F, by go_num, hlt, rfl, by omega, hx1, hid ?_, hid ?_, ?_, hid hG2.out, St.drop (A := [_]) hs⟩
              · rw [List.length_append, flatten_snoc]; exact hsl2.out
              · exact hrp.out.snoc (leaf_rep F t)
              · rw [List.length_append, List.length_singleton]; omega
      · have hRe : R = .ok (ks, []) := by
          rw [← hG.out, List.drop_eq_nil_of_le (by omega)]
          cases m <;> rfl
        subst hRe
        have qj : decide (j < ts.length) = false := by simpa using hlt
        go_wp2_with fail
        refine bodyPost_ret (results57 rfl rfl rfl rfl) rfl ?_
        refine ⟨_, C ++ F, j, rfl, hid ?_, hid ?_, hs⟩
        · simp only [List.length_nil]; omega
        · exact hsl.out.rowr (hrp.out.mono fun p hp => List.mem_append_right _ hp) fun p hp => List.mem_append_left _ hp
end Go.Proofs.Ytclingkhdmhhoaa

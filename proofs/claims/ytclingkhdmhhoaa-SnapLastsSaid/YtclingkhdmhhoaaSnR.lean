/- SnapLasts: the walk of the law's long way. No condition. -/
import Derived.Test.YtclingkhdmhhoaaSnS
import Derived.Deep.DeepCutAuto
namespace Go.Proofs.Ytclingkhdmhhoaa
open Go.RowKit
set_option linter.unusedSimpArgs false
set_option linter.unusedVariables false

theorem run_sl60p {w : World} {A : Option Addr} {n m c : Nat} (h1 : n = m + 1) (h2 : n ≤ c) : (Instr.sliceAt 60 (.slice A n c) none (some (.int .i64 ((n : Int) - 1))) none).run Try.prog w = .ok (.slice A m c) w := by
  rw [show ((n : Int) - 1) = (m : Int) by omega]
  exact run_sl60 (by omega) h2
set_option maxHeartbeats 4000000 in
set_option maxRecDepth 10000 in
theorem snap_walk {w0 : World} {lv kv : Value} {Ls : List (List UInt8)} {kp : List Bool} {size : Nat} {stop torn tear : Int} (hL : Txts w0 lv Ls) (hk : Bools w0 kv kp) (g1 : 4 ≤ size) (g2 : size ≤ 60) (g3 : 1 ≤ Ls.length) (g4 : Ls.length ≤ 20) (g5 : kp.length ≤ 100) (hst : -9223372036854775808 ≤ stop ∧ stop ≤ 9223372036854775807) :
    Calls Try.prog 8 #[.int .i64 size, lv, .int .i64 stop, kv, .int .i64 torn, .int .i64 tear] w0 fun e w' => e = .returned (.bool true) ∧ Below w0.heap.size w0 w' := by
  obtain ⟨A, c, rfl⟩ : ∃ A c, lv = .slice A Ls.length c := by obtain ⟨A, c, vs, h, _⟩ := hL; exact ⟨A, c, h⟩
  have hcap : Ls.length ≤ c ∧ c ≤ maxLen := by obtain ⟨A0, c0, vs, h, h1, h2, _⟩ := hL; cases h; exact ⟨h1, h2⟩
  obtain ⟨hc1, hc2⟩ := hcap
  obtain ⟨ka, kc, rfl⟩ : ∃ ka kc, kv = .slice ka kp.length kc := by obtain ⟨a, c, h, _⟩ := hk; exact ⟨a, c, h⟩
  replace hL := hid hL
  replace hk := hid hk
  replace hst := hid hst
  have q1 : decide ((size : Int) < 4) = false := by simp; omega
  have q2 : decide ((60 : Int) < (size : Int)) = false := by simp; omega
  have q3 : decide ((Ls.length : Int) < 1) = false := by simp; omega
  have q4 : decide ((20 : Int) < (Ls.length : Int)) = false := by simp; omega
  have q5 : decide ((100 : Int) < (kp.length : Int)) = false := by simp; omega
  have hroom : roomN size = (size / 2 - 1) * 64 := rfl
  have hrm := hid (fun w => room_any size (by omega) w)
  have hstart := hid (start_going g1 (show size ≤ 1024 by omega))
  have hlen : (Dk.new size).lasts.length = size := by simp [Dk.new]
  replace hlen := hid hlen
  have hnk := hid (show (Dk.new size).later = [] ∧ (Dk.new size).stop = -1 ∧ (Dk.new size).ops = 0 from ⟨rfl, rfl, rfl⟩)
  obtain ⟨sp, hsp⟩ : ∃ sp, size / 2 = sp := ⟨_, rfl⟩
  rw [hsp] at hstart hroom
  have hsp2 : 2 ≤ sp := by omega
  have hsp30 : sp ≤ 30 := by omega
  have hrmle : roomN size ≤ 2000 := by rw [hroom]; omega
  generalize roomN size = room at *
  replace hroom := hid hroom
  replace hsp := hid hsp
  go_enter Try.func8, Try.ntmps8
  go_wp2_with (first
    | (go_at_call 27; refine (speaks6 _).mono ?_; rintro e w ⟨rfl, hs⟩)
    | (go_at_call 13; refine (new_any (n := size) (by omega) (by omega)).mono ?_; rintro e w ⟨d, C, rfl, hD, hs'⟩; replace hs := hs.trans hs'; clear hs'; generalize Dk.new size = k0 at hstart hlen hnk hD; replace hD := hid hD))
  go_loopg [67] Ls.length (fun g iv wr => ∃ j : Nat, iv = .int .i64 j ∧ j ≤ Ls.length ∧ g = Ls.length - j ∧ wr = w ∧ Hid (∀ i l, i < j → Ls[i]? = some l → l.length ≤ room))
  case atStart => exact ⟨0, rfl, Nat.zero_le _, rfl, rfl, hid (by intro i l h; omega)⟩
  case round =>
    obtain ⟨j, rfl, hj, rfl, rfl, hle⟩ := hrel
    by_cases hlt : j < Ls.length
    · obtain ⟨l, hl⟩ : ∃ l, Ls[j]? = some l := ⟨_, List.getElem?_eq_getElem hlt⟩
      obtain ⟨b, o, A', c', rfl, hcell, hT⟩ := txts_at hL.out hs hl
      replace hT := hid hT
      by_cases hlr : l.length ≤ room
      · have qr : decide (room < l.length) = false := by simp; omega
        have hle2 : ∀ i x, i < j + 1 → Ls[i]? = some x → x.length ≤ room := by
          intro i x hi hx
          rcases Nat.lt_or_ge i j with h | h
          · exact hle.out i x h hx
          · obtain rfl : i = j := by omega
            rw [hl] at hx
            cases hx; exact hlr
        replace hle2 := hid hle2
        replace hl := hid hl
        clear hle
        go_wp2_with (first
          | (go_at_call 28; refine (hrm.out _).mono ?_; rintro e w' ⟨rfl, rfl⟩))
        go_roundg (Ls.length - (j + 1))
        case measure => omega
        case rel => exact ⟨j + 1, by go_num, hlt, rfl, rfl, hle2⟩
      · have qr : decide (room < l.length) = true := by simp; omega
        replace hl := hid hl
        clear hle
        go_wp2_with (first
          | (go_at_call 28; refine (hrm.out _).mono ?_; rintro e w' ⟨rfl, rfl⟩))
        go_ret
        exact ⟨rfl, hs.below⟩
    · obtain rfl : j = Ls.length := by omega
      obtain ⟨m1, hm1⟩ : ∃ m1, Ls.length = m1 + 1 := ⟨Ls.length - 1, by omega⟩
      have hin : ∀ (j : Nat) (l : List UInt8), Ls[j]? = some l → l.length ≤ room := fun j l h => hle.out j l (List.getElem?_eq_some_iff.1 h).1 h
      replace hin := hid hin
      clear hle
      have hm20 : m1 ≤ 19 := by omega
      replace hm1 := hid hm1
      have em1 : ((Ls.length : Int) - 1) = (m1 : Int) := by have := hm1.out; omega
      replace em1 := hid em1
      go_wp2_with (first
        | ((with_reducible refine gd_sl ?_); refine wl_of rfl (wp_of_run (ex_sl_to (by first | exact ev rfl | rfl) (by first | exact ev rfl | rfl) (run_sl60p hm1.out hc1)) ?_)))
      rw [em1.out]
      go_loopg [84] m1 (fun g iv wr => ∃ (j : Nat) (k : Dk) (C : List (Nat × Obj)) (b : List UInt8), iv = .int .i64 j ∧ j ≤ m1 ∧ g = m1 - j ∧ St w0 [] C wr ∧ Hid (Disk d k C) ∧ Hid (Going k.lasts sp j b) ∧ Hid (k.later = [] ∧ k.stop = -1 ∧ k.ops ≤ (j * 40 : Nat)) ∧ Hid (1 ≤ j → Ls[j - 1]? = some b))
      case atStart => exact ⟨0, k0, C, [], rfl, Nat.zero_le _, rfl, hs, hD, hstart, hid ⟨hnk.out.1, hnk.out.2.1, by rw [hnk.out.2.2]; decide⟩, hid (fun h => by omega)⟩
      case round =>
        clear hs hD hstart hnk hlen
        obtain ⟨j, k, C, b, rfl, hj, rfl, hs, hD, hG, hK, hlast⟩ := hrel
        by_cases hlt : j < m1
        · obtain ⟨l, hl⟩ : ∃ l, Ls[j]? = some l := ⟨_, List.getElem?_eq_getElem (by have := hm1.out; omega)⟩
          obtain ⟨bb, o, A', c', rfl, hcell, hT⟩ := txts_at hL.out hs hl
          have hlr : l.length ≤ (sp - 1) * 64 := by have h1 := hin.out j l hl; have h2 := hroom.out; omega
          have hsv := save_st hs.has hD.out hG.out.inv hK.out.1 (by omega) (by have := hK.out.2.2; omega) (hT.via hs) hlr
          obtain ⟨n1, n2, n3, n4⟩ := save_going hG.out hK.out.1 hK.out.2.1 hlr (by omega)
          have hp := partsN_le hlr
          have hops : (saveOf k 7 l).ops ≤ ((j + 1) * 40 : Nat) := by have := hK.out.2.2; omega
          generalize saveOf k 7 l = k2 at *
          replace n1 := hid n1
          have hK2 := hid (And.intro n2 (And.intro n3 hops))
          clear n2 n3 n4 hops hG hK hp
          replace hsv := hid hsv
          replace hl := hid hl
          replace hT := hid hT
          go_wp2_with (first
            | (go_at_call 29; refine hsv.out.mono ?_; rintro e w ⟨rfl, C2, hD2, hs'⟩; replace hs := hs.trans hs'; clear hs'))
          go_roundg (m1 - (j + 1))
          case measure => omega
          case rel => exact ⟨j + 1, k2, C2, l, by go_num, hlt, rfl, hs, hD2, n1, hK2, hid (fun _ => hl.out)⟩
        · obtain rfl : j = m1 := by omega
          have hrr : b.length ≤ 1048576 := by
            rcases Nat.eq_zero_or_pos j with hz | hz
            · rcases hG.out.inv.cur with h | h
              · rw [h.2.1]; decide
              · omega
            · have h1 := hin.out (j - 1) b (hlast.out hz)
              omega
          have hld := load_st hs.has hD.out hG.out.inv hK.out.1 hrr
          obtain ⟨ec, hec⟩ : ∃ ec : Int, (if j = 0 then (5 : Int) else 0) = ec := ⟨_, rfl⟩
          rw [hec] at hld
          obtain ⟨B, hB⟩ : ∃ B : Bool, decide ((0 : Int) < (j : Int)) = B := ⟨_, rfl⟩
          have hecB : (ec == (0 : Int)) = B := by
            subst hec; subst hB
            by_cases h : j = 0
            · subst h; rfl
            · rw [if_neg h]
              have : 0 < j := by omega
              simp [this]
          replace hec := hid hec
          replace hB := hid hB
          replace hecB := hid hecB
          replace hld := hid hld
          obtain ⟨l, hl⟩ : ∃ l, Ls[j]? = some l := ⟨_, List.getElem?_eq_getElem (by have := hm1.out; omega)⟩
          obtain ⟨bb, o, A', c', rfl, hcell, hT⟩ := txts_at hL.out (St.nothing w0) hl
          replace hcell := hid hcell
          replace hT := hid hT
          replace hl := hid hl
          have hj30 := hid (show j ≤ 1073741000 by omega)
          go_wp2_with (first
            | (go_at_call 30; refine hld.out.mono ?_; rintro e w ⟨bA, bc, rfl, hTb, hs'⟩; have hsL := hs'; replace hs := hs.trans hs'; clear hs'))
          replace hTb : Hid (Txt w.drew (keys C) (.slice bA b.length bc) b) := hid (hTb.out.via (St.start hs.has).drew)
          replace hs := hs.drew
          go_cut [123] (fun v wx => v = .bool false ∧ wx = w.drew)
          case first =>
            refine wp_region_phases [] (wsOf [World.drew _]) follows (by kernel_rfl) (by kernel_rfl) rfl ?_
            refine LinP.pure rfl rfl (ex_move (ev rfl)) (pu rfl (by simp only [List.set_cons_succ, List.set_cons_zero]; rfl)) ?_
            refine LinP.pure rfl rfl (ex_eql26 (ev rfl) evc) (pu rfl (by simp only [List.set_cons_succ, List.set_cons_zero]; rfl)) ?_
            rw [hecB.out]
            refine LinP.pure rfl rfl (ex_move (ev rfl)) (pu rfl (by simp only [List.set_cons_succ, List.set_cons_zero]; rfl)) ?_
            refine LinP.pure rfl rfl (ex_gtr3 (ev rfl) evc) (pu rfl (by simp only [List.set_cons_succ, List.set_cons_zero]; rfl)) ?_
            rw [hB.out]
            refine LinP.pure rfl rfl (ex_neqb (ev rfl) (ev rfl)) (pu rfl (by simp only [List.set_cons_succ, List.set_cons_zero]; rfl)) ?_
            rw [show (B != B) = false by simp]
            refine LinP.pure rfl rfl (ex_move (ev rfl)) (pu rfl (by simp only [List.set_cons_succ, List.set_cons_zero]; rfl)) ?_
            refine LinP.pure rfl rfl (ex_move (ev rfl)) (pu rfl (by simp only [List.set_cons_succ, List.set_cons_zero]; rfl)) ?_
            refine LinP.pure rfl rfl (ex_gtr3 (ev rfl) evc) (pu rfl (by simp only [List.set_cons_succ, List.set_cons_zero]; rfl)) ?_
            rw [hB.out]
            refine LinP.pure rfl rfl (ex_move (ev rfl)) (pu rfl (by simp only [List.set_cons_succ, List.set_cons_zero]; rfl)) ?_
            rcases Nat.eq_zero_or_pos j with hz | hz
            · have hBf : B = false := by rw [← hB.out]; simp; omega
              subst hBf
              replace hz := hid hz
              refine LinP.off rfl rfl (pu rfl (by simp only [List.set_cons_succ, List.set_cons_zero]; rfl)) ?_
              refine LinP.off rfl rfl (pu rfl (by simp only [List.set_cons_succ, List.set_cons_zero]; rfl)) ?_
              refine LinP.off rfl rfl (pu rfl (by simp only [List.set_cons_succ, List.set_cons_zero]; rfl)) ?_
              refine LinP.off rfl rfl (pu rfl (by simp only [List.set_cons_succ, List.set_cons_zero]; rfl)) ?_
              refine LinP.off rfl rfl (pu rfl (by simp only [List.set_cons_succ, List.set_cons_zero]; rfl)) ?_
              refine LinP.off rfl rfl (pu rfl (by simp only [List.set_cons_succ, List.set_cons_zero]; rfl)) ?_
              refine LinP.off rfl rfl (pu rfl (by simp only [List.set_cons_succ, List.set_cons_zero]; rfl)) ?_
              refine LinP.off rfl rfl (pu rfl (by simp only [List.set_cons_succ, List.set_cons_zero]; rfl)) ?_
              refine LinP.off rfl rfl (pu rfl (by simp only [List.set_cons_succ, List.set_cons_zero]; rfl)) ?_
              refine LinP.pure rfl rfl (ex_pick (ev rfl) rfl) (pu rfl (by simp only [List.set_cons_succ, List.set_cons_zero]; rfl)) ?_
              refine LinP.pure rfl rfl (ex_pick (ev rfl) rfl) (pu rfl (by simp only [List.set_cons_succ, List.set_cons_zero]; rfl)) ?_
              refine LinP.pure rfl rfl (ex_move (ev rfl)) (pu rfl (by simp only [List.set_cons_succ, List.set_cons_zero]; rfl)) ?_
              refine LinP.pure rfl rfl (ex_move (ev rfl)) (pu rfl (by simp only [List.set_cons_succ, List.set_cons_zero]; rfl)) ?_
              refine LinP.pure rfl rfl (ex_move (ev rfl)) (pu rfl (by simp only [List.set_cons_succ, List.set_cons_zero]; rfl)) ?_
              refine LinP.pure rfl rfl (ex_neq3 (ev rfl) (ev rfl)) (pu rfl (by simp only [List.set_cons_succ, List.set_cons_zero]; rfl)) ?_
              rw [show ((j : Int) != (j : Int)) = false by simp]
              refine LinP.pure rfl rfl (ex_pick (ev rfl) rfl) (pu rfl (by simp only [List.set_cons_succ, List.set_cons_zero]; rfl)) ?_
              refine LinP.done ?_
              go_wp2
              go_meet
              exact ⟨rfl, rfl⟩
            · have hBf : B = true := by rw [← hB.out]; simp; omega
              subst hBf
              obtain ⟨jm, hjm⟩ : ∃ jm : Nat, j = jm + 1 := ⟨j - 1, by omega⟩
              have hlb : Ls[jm]? = some b := by have := hlast.out hz; rw [show j - 1 = jm by omega] at this; exact this
              obtain ⟨b2, o2, A2, c2, hA2, hcell2, hT2⟩ := txts_at hL.out hs hlb
              cases hA2
              have hT3 : Txt w.drew [] (.slice A2 b.length c2) b := (hT2.via hs).start (by simp)
              replace hcell2 := hid hcell2
              replace hT3 := hid hT3
              replace hlb := hid hlb
              replace hjm := hid hjm
              replace hz := hid hz
              clear hT2
              refine LinP.pure rfl rfl (ex_move (ev rfl)) (pu rfl (by simp only [List.set_cons_succ, List.set_cons_zero]; rfl)) ?_
              refine LinP.rd 0 rfl rfl (by kernel_rfl) (by kernel_rfl) (ex_cnv (ev rfl) (run_txt_string hTb.out)) (pu rfl (by simp only [List.set_cons_succ, List.set_cons_zero]; rfl)) ?_
              refine LinP.pure rfl rfl (ex_move (ev rfl)) (pu rfl (by simp only [List.set_cons_succ, List.set_cons_zero]; rfl)) ?_
              refine LinP.pure rfl rfl (ex_move (ev rfl)) (pu rfl (by simp only [List.set_cons_succ, List.set_cons_zero]; rfl)) ?_
              refine LinP.pure rfl rfl (fun w => ex_sub3 (c := jm) (ev rfl) evc (by have := hjm.out; omega) (by have := hjm.out; omega) w) (pu rfl (by simp only [List.set_cons_succ, List.set_cons_zero]; rfl)) ?_
              refine LinP.pure rfl rfl (ex_indexAddr sty60 (ev rfl) (ev rfl) (by have := hm1.out; have := hjm.out; omega)) (pu rfl (by simp only [List.set_cons_succ, List.set_cons_zero]; rfl)) ?_
              refine LinP.rd 0 rfl rfl (by kernel_rfl) (by kernel_rfl) (ex_ld_s (ev rfl) (sc_of rfl) (by rw [Nat.mul_one]; exact hcell2.out)) (pu rfl (by simp only [List.set_cons_succ, List.set_cons_zero]; rfl)) ?_
              refine LinP.rd 0 rfl rfl (by kernel_rfl) (by kernel_rfl) (ex_cnv (ev rfl) (run_txt_string hT3.out)) (pu rfl (by simp only [List.set_cons_succ, List.set_cons_zero]; rfl)) ?_
              refine LinP.pure rfl rfl (ex_neqs (ev rfl) (ev rfl)) (pu rfl (by simp only [List.set_cons_succ, List.set_cons_zero]; rfl)) ?_
              rw [show (b != b) = false by simp]
              refine LinP.pure rfl rfl (ex_pick (ev rfl) rfl) (pu rfl (by simp only [List.set_cons_succ, List.set_cons_zero]; rfl)) ?_
              refine LinP.pure rfl rfl (ex_pick (ev rfl) rfl) (pu rfl (by simp only [List.set_cons_succ, List.set_cons_zero]; rfl)) ?_
              refine LinP.pure rfl rfl (ex_move (ev rfl)) (pu rfl (by simp only [List.set_cons_succ, List.set_cons_zero]; rfl)) ?_
              refine LinP.pure rfl rfl (ex_move (ev rfl)) (pu rfl (by simp only [List.set_cons_succ, List.set_cons_zero]; rfl)) ?_
              refine LinP.pure rfl rfl (ex_move (ev rfl)) (pu rfl (by simp only [List.set_cons_succ, List.set_cons_zero]; rfl)) ?_
              refine LinP.pure rfl rfl (ex_neq3 (ev rfl) (ev rfl)) (pu rfl (by simp only [List.set_cons_succ, List.set_cons_zero]; rfl)) ?_
              rw [show ((j : Int) != (j : Int)) = false by simp]
              refine LinP.pure rfl rfl (ex_pick (ev rfl) rfl) (pu rfl (by simp only [List.set_cons_succ, List.set_cons_zero]; rfl)) ?_
              refine LinP.done ?_
              go_wp2
              go_meet
              exact ⟨rfl, rfl⟩
          case rest =>
            obtain ⟨rfl, rfl⟩ := hcut
            clear hld hsL
            obtain ⟨sd, hsd⟩ : ∃ sd, bits .and .i64 stop 31 = sd := ⟨_, rfl⟩
            have hsd0 : 0 ≤ sd ∧ sd ≤ 31 := by rw [← hsd, and31s]; omega
            obtain ⟨hsd1, hsd2⟩ := hsd0
            obtain ⟨O, hO⟩ : ∃ O, k.ops = O := ⟨_, rfl⟩
            have hO0 : 0 ≤ O := by have := hD.out.1.len; omega
            have hO1 : O ≤ 1000 := by have := hK.out.2.2; omega
            replace hO := hid hO
            have hjl : j < Ls.length := by have := hm1.out; omega
            have hlr : l.length ≤ (sp - 1) * 64 := by have h1 := hin.out j l hl.out; have h2 := hroom.out; omega
            replace hlr := hid hlr
            have hop := hid (show ∀ x : Int, x = O → x ≤ 1000000 from fun x h => by omega)
            have hj200 := hid (show j ≤ 200 by omega)
            have hj254 := hid (show j + 1 ≤ 255 by omega)
            have hkl := hid (show kp.length ≤ 1073741824 by omega)
            go_wp2_with (first
              | (go_at_call 20; refine (ops_s hs.has hD.out hO.out).mono ?_; rintro e w ⟨rfl, rfl⟩)
              | (go_at_call 19; refine (stop_s hs.has hD.out).mono ?_; rintro e w ⟨rfl, k1, C1, hk1, hD1, hs'⟩; replace hTb := hid (hTb.out.via hs'); replace hs := hs.trans hs'; clear hs'; have hG1 : Hid (Going k1.lasts sp j b) := hid (by rw [hk1.out.1]; exact hG.out))
              | ((with_reducible refine gd_ld (ty := 43) ?_); refine wl_of rfl (wp_of_run (ex_ld_s (by first | exact ev rfl | rfl) (sc_of rfl) (hs.out hcell.out)) ?_))
              | (go_at_call 29; refine (save_st (b' := l) hs.has hD1.out hG1.out.inv (hk1.out.2.1.trans hK.out.1) hj200.out (hop.out _ (hk1.out.2.2.trans hO.out)) (hT.out.via hs) hlr.out).mono ?_; rintro e w ⟨rfl, C2, hD2, hs'⟩; replace hTb := hid (hTb.out.via hs'); replace hs := hs.trans hs'; clear hs'; have hcr := hid (save_crash hG1.out (hk1.out.2.1.trans hK.out.1) hlr.out hj254.out kp torn tear); have hko := hid (save_leaves (b' := l) hG1.out.inv (hk1.out.2.1.trans hK.out.1) hlr.out).2.2.2; generalize hk2 : saveOf k1 7 l = k2 at hD2 hcr hko; replace hk2 := hid hk2)
              | (go_at_call 21; refine (dead_k hs.has hD2.out).mono ?_; rintro e w' ⟨rfl, hq⟩; replace hTb := hid (hTb.out.via ((St.start hs.has).quiet hq)); replace hs := hs.quiet hq; clear hq)
              | (go_at_call 17; refine (crash_any (kp := kp) hs.has hD2.out hkl.out (fun w' h => hk.out.keep fun p v hc => (hs.trans h).out hc)).mono ?_; rintro e w ⟨rfl, C3, hD3, hs'⟩; replace hTb := hid (hTb.out.via hs'); replace hs := hs.trans hs'; clear hs'; replace hD3 := hid hD3))
            have hlr2 : l.length ≤ 1048576 := by have := hlr.out; omega
            have hk3 : Hid ((k2.crash kp torn tear).later = [] ∧ (k2.crash kp torn tear).stop = -1 ∧ (k2.crash kp torn tear).ops = k2.ops) := hid ⟨rfl, rfl, rfl⟩
            have hk2o : k2.ops ≤ 1000000 := by
              have e1 := hko.out
              have e2 := hk1.out.2.2
              have e3 := hO.out
              have e4 := partsN_le hlr.out
              omega
            replace hk2o := hid hk2o
            clear hko
            generalize hde : k2.dead = de at *
            replace hde := hid hde
            rcases hcr.out with ⟨hI3, hdd⟩ | hI3
            · obtain rfl : de = true := hdd
              generalize k2.crash kp torn tear = k3 at *
              obtain ⟨m3, hm3⟩ : ∃ m3, m3 = j := ⟨_, rfl⟩
              have hld3 := load_st hs.has hD3.out hI3 hk3.out.1 hrr
              rw [hec.out] at hld3
              have hm3b : m3 ≤ 200 := by omega
              rw [← hm3] at hI3
              replace hm3 := hid hm3
              replace hI3 := hid hI3
              replace hld3 := hid hld3
              have hqjj := hid (show ((j : Int) == (j : Int)) = true by simp)
              have hqBB := hid (show (B == B) = true by simp)
              have hqbb := hid (show (b == b) = true by simp)
              have hqj1 := hid (show ((j : Int) == ((j + 1 : Nat) : Int)) = false by simp; omega)
              have se1 : ∀ w, (eqGuard .eql 9 (.tmp 163) (.tmp 165) (str b) (str b)).run Try.prog w = .ok () w := fun w => by unfold str; go_simp
              have se2 : ∀ w, (binOp .eql 9 (str b) (str b)).run Try.prog w = .ok (.bool true) w := fun w => by unfold str; go_simp
              have qe := hecB.out
              have qn : decide (0 < j) = B := by rw [← hB.out]; simp
              go_wp2_with (first
                | (go_at_call 30; refine hld3.out.mono ?_; rintro e w ⟨xA, xc, rfl, hTx, hs'⟩; replace hTb := hid (hTb.out.via hs'); replace hs := hs.trans hs'; clear hs')
                | ((with_reducible refine gd_cv (s := 43) ?_); first | refine wl_on rfl (wp_of_run (ex_cnv (by first | exact ev rfl | rfl) (run_txt_string hTx.out)) ?_) | refine wl_on rfl (wp_of_run (ex_cnv (by first | exact ev rfl | rfl) (run_txt_string hTb.out)) ?_)))
              clear se1 se2 qe qn
              replace hs := hs.drew
              refine wp_region_phases [] (wsOf [World.drew _]) follows (by kernel_rfl) (by kernel_rfl) rfl ?_
              refine LinP.pure rfl rfl (ex_move (ev rfl)) (pu rfl (by simp only [List.set_cons_succ, List.set_cons_zero]; rfl)) ?_
              refine LinP.pure rfl rfl (ex_move (ev rfl)) (pu rfl (by simp only [List.set_cons_succ, List.set_cons_zero]; rfl)) ?_
              refine LinP.pure rfl rfl (fun w => ex_add3 (c := j + 1) (ev rfl) evc (by omega) (by omega) w) (pu rfl (by simp only [List.set_cons_succ, List.set_cons_zero]; rfl)) ?_
              refine LinP.pure rfl rfl (ex_eql3 (ev rfl) (ev rfl)) (pu rfl (by simp only [List.set_cons_succ, List.set_cons_zero]; rfl)) ?_
              rw [hqj1.out]
              refine LinP.pure rfl rfl (ex_move (ev rfl)) (pu rfl (by simp only [List.set_cons_succ, List.set_cons_zero]; rfl)) ?_
              refine LinP.off rfl rfl (pu rfl (by simp only [List.set_cons_succ, List.set_cons_zero]; rfl)) ?_
              refine LinP.off rfl rfl (pu rfl (by simp only [List.set_cons_succ, List.set_cons_zero]; rfl)) ?_
              refine LinP.pure rfl rfl (ex_pick (ev rfl) rfl) (pu rfl (by simp only [List.set_cons_succ, List.set_cons_zero]; rfl)) ?_
              refine LinP.pure rfl rfl (ex_move (ev rfl)) (pu rfl (by simp only [List.set_cons_succ, List.set_cons_zero]; rfl)) ?_
              refine LinP.off rfl rfl (pu rfl (by simp only [List.set_cons_succ, List.set_cons_zero]; rfl)) ?_
              refine LinP.off rfl rfl (pu rfl (by simp only [List.set_cons_succ, List.set_cons_zero]; rfl)) ?_
              refine LinP.off rfl rfl (pu rfl (by simp only [List.set_cons_succ, List.set_cons_zero]; rfl)) ?_
              refine LinP.off rfl rfl (pu rfl (by simp only [List.set_cons_succ, List.set_cons_zero]; rfl)) ?_
              refine LinP.off rfl rfl (pu rfl (by simp only [List.set_cons_succ, List.set_cons_zero]; rfl)) ?_
              refine LinP.off rfl rfl (pu rfl (by simp only [List.set_cons_succ, List.set_cons_zero]; rfl)) ?_
              refine LinP.off rfl rfl (pu rfl (by simp only [List.set_cons_succ, List.set_cons_zero]; rfl)) ?_
              refine LinP.off rfl rfl (pu rfl (by simp only [List.set_cons_succ, List.set_cons_zero]; rfl)) ?_
              refine LinP.pure rfl rfl (ex_pick (ev rfl) rfl) (pu rfl (by simp only [List.set_cons_succ, List.set_cons_zero]; rfl)) ?_
              refine LinP.pure rfl rfl (ex_assign (ev rfl)) (pu rfl (by simp only [List.set_cons_succ, List.set_cons_zero]; rfl)) ?_
              refine LinP.done ?_
              clear hTx hTb
              rw [← hm3.out]
              obtain ⟨m4, hm4⟩ : ∃ m4, m4 = m3 + 1 := ⟨_, rfl⟩
              have hI4 := save_inv (b' := [1, 2, 3]) hI3.out hk3.out.1 hk3.out.2.1 (show 3 ≤ (sp - 1) * 64 by omega) (by omega)
              rw [← hm4] at hI4
              have hsv3 := fun (w : World) (gb : Nat) (hs : St w0 [] ((gb, row 5 (sv [1, 2, 3])) :: C3) w) => save_st (b' := [1, 2, 3]) (St.drop (A := [_]) hs).has hD3.out hI3.out hk3.out.1 (by omega) (by rw [hk3.out.2.2]; exact hk2o.out) (txt_own hs (by decide)) (show 3 ≤ (sp - 1) * 64 by omega)
              generalize hk4 : saveOf k3 7 [1, 2, 3] = k4 at *
              replace hk4 := hid hk4
              have hm40 : 0 < m4 := by omega
              have hm4b : m4 ≤ 1000 := by omega
              have hm34 : (m3 : Int) + 1 = (m4 : Int) := by omega
              replace hI4 := hid hI4
              replace hsv3 := hid hsv3
              replace hm4 := hid hm4
              replace hm34 := hid hm34
              have hq44 := hid (show ((m4 : Int) == (m4 : Int)) = true by simp)
              have hq00 := hid (show ((0 : Int) == (0 : Int)) = true by simp)
              have hq123 := hid (show (([1, 2, 3] : List UInt8) == [1, 2, 3]) = true by decide)
              have se3 : ∀ w, (eqGuard .eql 9 (.tmp 217) (.const (.string ⟨#[1, 2, 3]⟩)) (str [1, 2, 3]) (.string ⟨#[1, 2, 3]⟩)).run Try.prog w = .ok () w := fun w => by unfold str; go_simp
              have se4 : ∀ w, (binOp .eql 9 (str [1, 2, 3]) (.string ⟨#[1, 2, 3]⟩)).run Try.prog w = .ok (.bool true) w := fun w => by unfold str; go_simp
              go_wp2_with (first
                | ((with_reducible refine gd_bs (n := 3) ?_); refine wl_of rfl (hs.bsn rfl run_bs3 ?_); intro gb w hgb hs)
                | (go_at_call 29; refine (hsv3.out _ _ hs).mono ?_; rintro e w ⟨rfl, C4, hD4, hs'⟩; have hs2 := St.callR (A := [_]) hs hs'; clear hs' hs; have hs := hs2; clear hs2)
                | (go_at_call 30; refine (load_st1 (St.drop (A := [_]) hs).has hD4.out hI4.out.1 hI4.out.2 (show 3 ≤ 1048576 by decide) hm40).mono ?_; rintro e w ⟨yA, yc, rfl, hTy, hs'⟩; have hs2 := St.callR (A := [_]) hs hs'; clear hs' hs; have hs := hs2; clear hs2)
                | ((with_reducible refine gd_cv (s := 43) ?_); refine wl_on rfl (wp_of_run (ex_cnv (by first | exact ev rfl | rfl) (run_txt_string hTy.out)) ?_))
                | ((with_reducible refine gd_bn (bo := .add) (ty := 3) ?_); refine wl_on rfl (wp_of_run (ex_add3 (c := m4) (by first | exact ev rfl | rfl) evc hm34.out (by omega) _) ?_))
                | ((with_reducible refine gd_bn (bo := .eql) (ty := 26) ?_); refine wl_of rfl (wp_of_run (v := .bool true) ((ex_eql26 (by first | exact ev rfl | rfl) (by first | exact ev rfl | exact evc | rfl) _).trans (by rw [hq00.out])) ?_))
                | ((with_reducible refine gd_bn (bo := .eql) (ty := 3) ?_); refine wl_on rfl (wp_of_run (v := .bool true) ((ex_eql3 (by first | exact ev rfl | rfl) (by first | exact ev rfl | exact evc | rfl) _).trans (by rw [hq44.out])) ?_)))
              go_ret
              exact ⟨ret_b (by rw [hm34.out]; simp), hs.below⟩
            · generalize k2.crash kp torn tear = k3 at *
              obtain ⟨m3, hm3⟩ : ∃ m3, m3 = j + 1 := ⟨_, rfl⟩
              rw [← hm3] at hI3
              have hld3 := load_st1 hs.has hD3.out hI3 hk3.out.1 hlr2 (by omega)
              have hm3b : m3 ≤ 200 := by omega
              have hjm3 : (j : Int) + 1 = (m3 : Int) := by omega
              have hq3j : ((m3 : Int) == (j : Int)) = false := by simp; omega
              have hq33 := hid (show ((m3 : Int) == (m3 : Int)) = true by simp)
              have hq0 := hid (show ((0 : Int) == (0 : Int)) = true by simp)
              have hqll := hid (show (l == l) = true by simp)
              replace hm3 := hid hm3
              replace hjm3 := hid hjm3
              replace hI3 := hid hI3
              replace hld3 := hid hld3
              go_wp2_with (first
                | (go_at_call 30; refine hld3.out.mono ?_; rintro e w ⟨xA, xc, rfl, hTx, hs'⟩; replace hs := hs.trans hs'; clear hs'))
              clear hq3j
              replace hTx : Hid (Txt (World.drew _) (keys C3) (.slice xA l.length xc) l) := hid (hTx.out.via (St.start hs.has).drew)
              replace hs := hs.drew
              have hT4 := hid ((hT.out.via hs).start (D' := []) (by simp))
              refine wp_region_phases [] (wsOf [World.drew _]) follows (by kernel_rfl) (by kernel_rfl) rfl ?_
              refine LinP.pure rfl rfl (ex_move (ev rfl)) (pu rfl (by simp only [List.set_cons_succ, List.set_cons_zero]; rfl)) ?_
              refine LinP.pure rfl rfl (ex_move (ev rfl)) (pu rfl (by simp only [List.set_cons_succ, List.set_cons_zero]; rfl)) ?_
              refine LinP.pure rfl rfl (fun w => ex_add3 (c := m3) (ev rfl) evc hjm3.out (by omega) w) (pu rfl (by simp only [List.set_cons_succ, List.set_cons_zero]; rfl)) ?_
              refine LinP.pure rfl rfl (ex_eql3 (ev rfl) (ev rfl)) (pu rfl (by simp only [List.set_cons_succ, List.set_cons_zero]; rfl)) ?_
              rw [hq33.out]
              refine LinP.pure rfl rfl (ex_move (ev rfl)) (pu rfl (by simp only [List.set_cons_succ, List.set_cons_zero]; rfl)) ?_
              refine LinP.pure rfl rfl (ex_move (ev rfl)) (pu rfl (by simp only [List.set_cons_succ, List.set_cons_zero]; rfl)) ?_
              refine LinP.pure rfl rfl (ex_eql26 (ev rfl) evc) (pu rfl (by simp only [List.set_cons_succ, List.set_cons_zero]; rfl)) ?_
              rw [hq0.out]
              refine LinP.pure rfl rfl (ex_pick (v := .bool true) (ev rfl) rfl) (pu rfl (by simp only [List.set_cons_succ, List.set_cons_zero]; rfl)) ?_
              refine LinP.pure rfl rfl (ex_move (ev rfl)) (pu rfl (by simp only [List.set_cons_succ, List.set_cons_zero]; rfl)) ?_
              refine LinP.pure rfl rfl (ex_move (ev rfl)) (pu rfl (by simp only [List.set_cons_succ, List.set_cons_zero]; rfl)) ?_
              refine LinP.rd 0 rfl rfl (by kernel_rfl) (by kernel_rfl) (ex_cnv (ev rfl) (run_txt_string hTx.out)) (pu rfl (by simp only [List.set_cons_succ, List.set_cons_zero]; rfl)) ?_
              refine LinP.pure rfl rfl (ex_move (ev rfl)) (pu rfl (by simp only [List.set_cons_succ, List.set_cons_zero]; rfl)) ?_
              refine LinP.pure rfl rfl (ex_move (ev rfl)) (pu rfl (by simp only [List.set_cons_succ, List.set_cons_zero]; rfl)) ?_
              refine LinP.pure rfl rfl (ex_indexAddr sty60 (ev rfl) (ev rfl) hjl) (pu rfl (by simp only [List.set_cons_succ, List.set_cons_zero]; rfl)) ?_
              refine LinP.rd 0 rfl rfl (by kernel_rfl) (by kernel_rfl) (ex_ld_s (ev rfl) (sc_of rfl) (by rw [Nat.mul_one]; exact hs.out hcell.out)) (pu rfl (by simp only [List.set_cons_succ, List.set_cons_zero]; rfl)) ?_
              refine LinP.rd 0 rfl rfl (by kernel_rfl) (by kernel_rfl) (ex_cnv (ev rfl) (run_txt_string hT4.out)) (pu rfl (by simp only [List.set_cons_succ, List.set_cons_zero]; rfl)) ?_
              refine LinP.pure rfl rfl (ex_eqs (ev rfl) (ev rfl)) (pu rfl (by simp only [List.set_cons_succ, List.set_cons_zero]; rfl)) ?_
              rw [hqll.out]
              refine LinP.pure rfl rfl (ex_pick (v := .bool true) (ev rfl) rfl) (pu rfl (by simp only [List.set_cons_succ, List.set_cons_zero]; rfl)) ?_
              refine LinP.pure rfl rfl (ex_assign (ev rfl)) (pu rfl (by simp only [List.set_cons_succ, List.set_cons_zero]; rfl)) ?_
              refine LinP.done ?_
              clear hTx hTb hT4
              generalize hwh : (!de) = wh
              replace hwh := hid hwh
              cases wh
              · skip
                obtain ⟨m4, hm4⟩ : ∃ m4, m4 = m3 + 1 := ⟨_, rfl⟩
                have hI4 := save_inv (b' := [1, 2, 3]) hI3.out hk3.out.1 hk3.out.2.1 (show 3 ≤ (sp - 1) * 64 by omega) (by omega)
                rw [← hm4] at hI4
                have hsv3 := fun (w : World) (gb : Nat) (hs : St w0 [] ((gb, row 5 (sv [1, 2, 3])) :: C3) w) => save_st (b' := [1, 2, 3]) (St.drop (A := [_]) hs).has hD3.out hI3.out hk3.out.1 (by omega) (by rw [hk3.out.2.2]; exact hk2o.out) (txt_own hs (by decide)) (show 3 ≤ (sp - 1) * 64 by omega)
                generalize hk4 : saveOf k3 7 [1, 2, 3] = k4 at *
                replace hk4 := hid hk4
                have hm40 : 0 < m4 := by omega
                have hm4b : m4 ≤ 1000 := by omega
                have hm34 : (m3 : Int) + 1 = (m4 : Int) := by omega
                replace hI4 := hid hI4
                replace hsv3 := hid hsv3
                replace hm4 := hid hm4
                replace hm34 := hid hm34
                have hq44 := hid (show ((m4 : Int) == (m4 : Int)) = true by simp)
                have hq00 := hid (show ((0 : Int) == (0 : Int)) = true by simp)
                have hq123 := hid (show (([1, 2, 3] : List UInt8) == [1, 2, 3]) = true by decide)
                have se3 : ∀ w, (eqGuard .eql 9 (.tmp 217) (.const (.string ⟨#[1, 2, 3]⟩)) (str [1, 2, 3]) (.string ⟨#[1, 2, 3]⟩)).run Try.prog w = .ok () w := fun w => by unfold str; go_simp
                have se4 : ∀ w, (binOp .eql 9 (str [1, 2, 3]) (.string ⟨#[1, 2, 3]⟩)).run Try.prog w = .ok (.bool true) w := fun w => by unfold str; go_simp
                go_wp2_with (first
                  | ((with_reducible refine gd_bs (n := 3) ?_); refine wl_of rfl (hs.bsn rfl run_bs3 ?_); intro gb w hgb hs)
                  | (go_at_call 29; refine (hsv3.out _ _ hs).mono ?_; rintro e w ⟨rfl, C4, hD4, hs'⟩; have hs2 := St.callR (A := [_]) hs hs'; clear hs' hs; have hs := hs2; clear hs2)
                  | (go_at_call 30; refine (load_st1 (St.drop (A := [_]) hs).has hD4.out hI4.out.1 hI4.out.2 (show 3 ≤ 1048576 by decide) hm40).mono ?_; rintro e w ⟨yA, yc, rfl, hTy, hs'⟩; have hs2 := St.callR (A := [_]) hs hs'; clear hs' hs; have hs := hs2; clear hs2)
                  | ((with_reducible refine gd_cv (s := 43) ?_); refine wl_on rfl (wp_of_run (ex_cnv (by first | exact ev rfl | rfl) (run_txt_string hTy.out)) ?_))
                  | ((with_reducible refine gd_bn (bo := .add) (ty := 3) ?_); refine wl_on rfl (wp_of_run (ex_add3 (c := m4) (by first | exact ev rfl | rfl) evc hm34.out (by omega) _) ?_))
                  | ((with_reducible refine gd_bn (bo := .eql) (ty := 26) ?_); refine wl_of rfl (wp_of_run (v := .bool true) ((ex_eql26 (by first | exact ev rfl | rfl) (by first | exact ev rfl | exact evc | rfl) _).trans (by rw [hq00.out])) ?_))
                  | ((with_reducible refine gd_bn (bo := .eql) (ty := 3) ?_); refine wl_on rfl (wp_of_run (v := .bool true) ((ex_eql3 (by first | exact ev rfl | rfl) (by first | exact ev rfl | exact evc | rfl) _).trans (by rw [hq44.out])) ?_)))
                go_ret
                exact ⟨ret_b (by rw [hm34.out]; simp), hs.below⟩
              · skip
                obtain ⟨m4, hm4⟩ : ∃ m4, m4 = m3 + 1 := ⟨_, rfl⟩
                have hI4 := save_inv (b' := [1, 2, 3]) hI3.out hk3.out.1 hk3.out.2.1 (show 3 ≤ (sp - 1) * 64 by omega) (by omega)
                rw [← hm4] at hI4
                have hsv3 := fun (w : World) (gb : Nat) (hs : St w0 [] ((gb, row 5 (sv [1, 2, 3])) :: C3) w) => save_st (b' := [1, 2, 3]) (St.drop (A := [_]) hs).has hD3.out hI3.out hk3.out.1 (by omega) (by rw [hk3.out.2.2]; exact hk2o.out) (txt_own hs (by decide)) (show 3 ≤ (sp - 1) * 64 by omega)
                generalize hk4 : saveOf k3 7 [1, 2, 3] = k4 at *
                replace hk4 := hid hk4
                have hm40 : 0 < m4 := by omega
                have hm4b : m4 ≤ 1000 := by omega
                have hm34 : (m3 : Int) + 1 = (m4 : Int) := by omega
                replace hI4 := hid hI4
                replace hsv3 := hid hsv3
                replace hm4 := hid hm4
                replace hm34 := hid hm34
                have hq44 := hid (show ((m4 : Int) == (m4 : Int)) = true by simp)
                have hq00 := hid (show ((0 : Int) == (0 : Int)) = true by simp)
                have hq123 := hid (show (([1, 2, 3] : List UInt8) == [1, 2, 3]) = true by decide)
                have se3 : ∀ w, (eqGuard .eql 9 (.tmp 217) (.const (.string ⟨#[1, 2, 3]⟩)) (str [1, 2, 3]) (.string ⟨#[1, 2, 3]⟩)).run Try.prog w = .ok () w := fun w => by unfold str; go_simp
                have se4 : ∀ w, (binOp .eql 9 (str [1, 2, 3]) (.string ⟨#[1, 2, 3]⟩)).run Try.prog w = .ok (.bool true) w := fun w => by unfold str; go_simp
                go_wp2_with (first
                  | ((with_reducible refine gd_bs (n := 3) ?_); refine wl_of rfl (hs.bsn rfl run_bs3 ?_); intro gb w hgb hs)
                  | (go_at_call 29; refine (hsv3.out _ _ hs).mono ?_; rintro e w ⟨rfl, C4, hD4, hs'⟩; have hs2 := St.callR (A := [_]) hs hs'; clear hs' hs; have hs := hs2; clear hs2)
                  | (go_at_call 30; refine (load_st1 (St.drop (A := [_]) hs).has hD4.out hI4.out.1 hI4.out.2 (show 3 ≤ 1048576 by decide) hm40).mono ?_; rintro e w ⟨yA, yc, rfl, hTy, hs'⟩; have hs2 := St.callR (A := [_]) hs hs'; clear hs' hs; have hs := hs2; clear hs2)
                  | ((with_reducible refine gd_cv (s := 43) ?_); refine wl_on rfl (wp_of_run (ex_cnv (by first | exact ev rfl | rfl) (run_txt_string hTy.out)) ?_))
                  | ((with_reducible refine gd_bn (bo := .add) (ty := 3) ?_); refine wl_on rfl (wp_of_run (ex_add3 (c := m4) (by first | exact ev rfl | rfl) evc hm34.out (by omega) _) ?_))
                  | ((with_reducible refine gd_bn (bo := .eql) (ty := 26) ?_); refine wl_of rfl (wp_of_run (v := .bool true) ((ex_eql26 (by first | exact ev rfl | rfl) (by first | exact ev rfl | exact evc | rfl) _).trans (by rw [hq00.out])) ?_))
                  | ((with_reducible refine gd_bn (bo := .eql) (ty := 3) ?_); refine wl_on rfl (wp_of_run (v := .bool true) ((ex_eql3 (by first | exact ev rfl | rfl) (by first | exact ev rfl | exact evc | rfl) _).trans (by rw [hq44.out])) ?_)))
                go_ret
                exact ⟨ret_b (by rw [hm34.out]; simp), hs.below⟩
end Go.Proofs.Ytclingkhdmhhoaa

/- The walk of the law DiskFlushed. No condition. -/
import Derived.Test.YtclingkhdmhhoaaSpeaks5
namespace Go.Proofs.Ytclingkhdmhhoaa
open Go.RowKit
set_option linter.unusedSimpArgs false

/-- a call of the law, as it lies in an argument -/
def CallAt (w : World) (b off : Nat) (c : Int × Wr) : Prop :=
  ∃ vs : List Value, vs.length = 68 ∧ (∀ j v, vs[j]? = some v → w.cell? ⟨b, off + j, none⟩ = some v) ∧ (∀ v ∈ vs, v.oneCell' = true) ∧ vs[0]? = some (.int .i64 c.1) ∧ vs[1]? = some (.int .i64 c.2.1) ∧ cut vs 3 64 = sv c.2.2 ∧ c.2.2.length = 64
def CallsAt (w : World) (v : Value) (cs : List (Int × Wr)) : Prop :=
  ∃ a cap, v = .slice a cs.length cap ∧ (cs = [] ∨ ∃ b o, a = some ⟨b, o, none⟩ ∧ ∀ i c, cs[i]? = some c → CallAt w b (o + i * 68) c)

def wrs (cs : List (Int × Wr)) : List Wr := cs.map (·.2)
theorem wrs_take (cs : List (Int × Wr)) (j : Nat) {c : Int × Wr} (h : cs[j]? = some c) : wrs (cs.take (j + 1)) = wrs (cs.take j) ++ [c.2] := by
  rw [List.take_add_one, h]; simp [wrs]

set_option maxHeartbeats 2000000 in
set_option maxRecDepth 4000 in
theorem flushed_walk {w0 : World} {fv lv kv : Value} {first later : List (Int × Wr)} {kp : List Bool} {torn tear : Int} (hf : CallsAt w0 fv first) (hl : CallsAt w0 lv later) (hk : Bools w0 kv kp)
    (hf60 : first.length ≤ 60) (hl60 : later.length ≤ 60) (hk100 : kp.length ≤ 100) :
    Calls Try.prog 3 #[fv, lv, kv, .int .i64 torn, .int .i64 tear] w0 fun e w' => e = .returned (.bool true) ∧ Below w0.heap.size w0 w' := by
  obtain ⟨fa, fc, rfl, hf⟩ := hf
  obtain ⟨la, lc, rfl, hl⟩ := hl
  obtain ⟨ka, kc, hkv, hk2⟩ := id hk
  subst hkv
  clear hk2
  have q1 : decide ((60 : Int) < (first.length : Int)) = false := by simp; omega
  have q2 : decide ((60 : Int) < (later.length : Int)) = false := by simp; omega
  have q3 : decide ((100 : Int) < (kp.length : Int)) = false := by simp; omega
  replace hk := hid hk
  replace hf := hid hf
  replace hl := hid hl
  go_enter Try.func3, Try.ntmps3
  go_wp2_with (first
    | (go_at_call 12; refine (speaks05 _).mono ?_; rintro e w ⟨rfl, hs⟩)
    | (go_at_call 13; refine (new_any (n := 20) (by decide) (by decide)).mono ?_; rintro e w' ⟨d, C, rfl, hD, hs'⟩; replace hs := hs.trans hs'; clear hs'))
  go_loopw [48] (fun i wr => ∃ j : Nat, j ≤ first.length ∧ i = .int .i64 j ∧ ∃ C, Disk d (writeAll (Dk.new 20) (wrs (first.take j))) C ∧ St w0 [] C wr) (fun i _ => first.length - (intOf i).toNat)
  case atStart => exact ⟨0, Nat.zero_le _, rfl, C, by simpa [wrs, writeAll] using hD, hs⟩
  case round =>
    clear hs hD C
    obtain ⟨j, hj, rfl, C, hD, hs⟩ := hrel
    by_cases hlt : j < first.length
    · obtain ⟨c, hc⟩ : ∃ c, first[j]? = some c := ⟨_, List.getElem?_eq_getElem hlt⟩
      obtain ⟨b, o, rfl, hcalls⟩ : ∃ b o, fa = some ⟨b, o, none⟩ ∧ ∀ i c, first[i]? = some c → CallAt w0 b (o + i * 68) c := by
        rcases hf.out with rfl | h
        · simp at hlt
        · exact h
      obtain ⟨vs, hv68, hvc, hv1, hvw, hva, hvs, hs64⟩ := hcalls j c hc
      have hops : (writeAll (Dk.new 20) (wrs (first.take j))).ops + 1 ≤ 1048576 := by
        have h := (writeAll_keeps (Dk.new 20) (wrs (first.take j))).2.2.1
        simp only [wrs, List.length_map, List.length_take, Dk.new] at h ⊢
        omega
      have htk := wrs_take first j hc
      have hnext := writeAll_snoc (Dk.new 20) (wrs (first.take j)) c.2
      rw [← htk] at hnext
      replace hnext := hid hnext
      generalize writeAll (Dk.new 20) (wrs (first.take j)) = k at *
      replace hva := hid hva
      replace hvs := hid hvs
      replace hvc := hid (fun wr (H : List (Nat × Obj)) (h : St w0 [] H wr) jj v hv => h.out (hvc jj v hv))
      clear hvw htk hc hcalls
      go_wp2_with (first
        | ((with_reducible refine gd_ia (ty := 22) ?_); refine wl_of rfl (wp_of_run (ex_indexAddr st22 rfl rfl hlt _) ?_))
        | ((with_reducible refine gd_ld (ty := 31) ?_); refine wl_of rfl (wp_lda rfl ag31 hv68 (hvc.out _ _ hs) ?_))
        | ((with_reducible refine gd_al ?_); refine wl_of rfl (hs.al zc31 ?_); intro bw w hbw hs)
        | ((with_reducible refine gd_st (ty := 31) ?_); refine wl_of rfl (hs.sta 0 rfl rfl ag31 rfl hv68 hv1 (Nat.le_of_eq rfl) (splice_all (hv68.trans rfl)) ?_); intro w hs; simp only [List.set_cons_zero] at hs)
        | ((with_reducible refine gd_ld (ty := 3) ?_); refine wl_of rfl (hs.ld 0 rfl rfl sc3 hva.out ?_))
        | ((with_reducible refine gd_ld (ty := 29) ?_); refine wl_of rfl (hs.lda 0 rfl rfl ag29 (by omega) hvs.out ?_))
        | (go_at_call 14; refine (write_any (St.drop (A := [_]) hs).has hD hops hs64).mono ?_; rintro e w' ⟨rfl, C', hD', hs'⟩; replace hs := St.callR (A := [_]) hs hs'; clear hs' hD))
      go_roundw
      case rel => exact ⟨j + 1, hlt, by go_num, C', by rw [hnext.out]; exact hD', St.drop (A := [_]) hs⟩
      case measure => simp [intOf]; omega
    · obtain rfl : j = first.length := by omega
      rw [List.take_length] at hD
      have hkeep := writeAll_keeps (Dk.new 20) (wrs first)
      have hops : (writeAll (Dk.new 20) (wrs first)).ops + 1 ≤ 1048576 := by
        have h := hkeep.2.2.1
        simp only [wrs, List.length_map, Dk.new] at h ⊢
        omega
      have hop60 : (writeAll (Dk.new 20) (wrs first)).ops ≤ 60 := by
        have h := hkeep.2.2.1
        simp only [wrs, List.length_map, Dk.new] at h ⊢
        omega
      have hlen20 : (writeAll (Dk.new 20) (wrs first)).lasts.length = 20 := by rw [hkeep.1]; simp [Dk.new]
      have hst1 : (writeAll (Dk.new 20) (wrs first)).stop = -1 := hkeep.2.1
      clear hkeep hf
      generalize writeAll (Dk.new 20) (wrs first) = k1 at *
      go_wp2_with (first
        | (go_at_call 15; refine (flush_any hs.has hD hops).mono ?_; rintro e w' ⟨rfl, C', hD', hs'⟩; replace hs := hs.trans hs'; clear hs' hD)
        | (go_at_call 16; refine (sectors_n (n := 20) hs.has hD' (by rw [flush_len]; exact hlen20)).mono ?_; rintro e w' ⟨gw, capw, jw, rfl, hs', hcapw⟩; replace hs := hs.trans hs'; clear hs')
        | ((with_reducible refine gd_mm ?_); refine wl_of rfl (hs.mm ?_); intro m w hm hs))
      have hk2 := flush_later k1 hst1
      have hs20 : k1.flush.lasts.length = 20 := by rw [flush_len]; exact hlen20
      have hsec2 := hD'.ok.seen
      have hopf : k1.flush.ops ≤ 61 := by have := flush_ops k1; omega
      replace hlen20 := hid hlen20
      replace hs20 := hid hs20
      generalize k1.flush = k2 at *
      go_loopw [66] (fun i wr => ∃ j : Nat, j ≤ later.length ∧ i = .int .i64 j ∧ ∃ C o, Disk d (writeAll k2 (wrs (later.take j))) C ∧ IntSet o (touched 20 (wrs (later.take j))) ∧
          St w0 [] ((m, o) :: (gw, row 38 (secs k2.seen ++ jw)) :: C) wr) (fun i _ => later.length - (intOf i).toNat)
      case atStart => exact ⟨0, Nat.zero_le _, rfl, C', _, by simpa [wrs, writeAll] using hD', by simpa [wrs, touched] using IntSet.empty, hs⟩
      case round =>
        clear hs hD'
        obtain ⟨j, hj, rfl, C, oset, hD, hset, hs⟩ := hrel
        by_cases hlt : j < later.length
        · obtain ⟨c, hc⟩ : ∃ c, later[j]? = some c := ⟨_, List.getElem?_eq_getElem hlt⟩
          obtain ⟨b, o, rfl, hcalls⟩ : ∃ b o, la = some ⟨b, o, none⟩ ∧ ∀ i c, later[i]? = some c → CallAt w0 b (o + i * 68) c := by
            rcases hl.out with rfl | h
            · simp at hlt
            · exact h
          obtain ⟨vs, hv68, hvc, hv1, hvw, hva, hvs, hs64⟩ := hcalls j c hc
          have hkeep := writeAll_keeps k2 (wrs (later.take j))
          have hops : (writeAll k2 (wrs (later.take j))).ops + 1 ≤ 1048576 := by
            have h := hkeep.2.2.1
            simp only [wrs, List.length_map, List.length_take] at h ⊢
            omega
          have htk := wrs_take later j hc
          have hnext := writeAll_snoc k2 (wrs (later.take j)) c.2
          have htch := touched_snoc 20 (wrs (later.take j)) c.2
          rw [← htk] at hnext htch
          have hthere : (writeAll k2 (wrs (later.take j))).there c.2.1 = decide (0 ≤ c.2.1 ∧ c.2.1 < (20 : Nat)) := by unfold Dk.there; rw [hkeep.1, hs20.out]
          replace hnext := hid hnext
          replace htch := hid htch
          generalize writeAll k2 (wrs (later.take j)) = k at *
          generalize touched 20 (wrs (later.take j)) = S at *
          replace hva := hid hva
          replace hvs := hid hvs
          replace hvc := hid (fun wr (H : List (Nat × Obj)) (h : St w0 [] H wr) jj v hv => h.out (hvc jj v hv))
          clear hvw htk hc hcalls hkeep
          cases hth : k.there c.2.1 with
          | true =>
            rw [hthere] at hth
            have htch2 := htch.out
            rw [if_pos hth] at htch2
            replace htch2 := hid htch2
            rw [← hthere] at hth
            clear hthere
            go_wp2_with (first
              | ((with_reducible refine gd_ia (ty := 22) ?_); refine wl_of rfl (wp_of_run (ex_indexAddr st22 rfl rfl hlt _) ?_))
              | ((with_reducible refine gd_ld (ty := 31) ?_); refine wl_of rfl (wp_lda rfl ag31 hv68 (hvc.out _ _ hs) ?_))
              | ((with_reducible refine gd_al ?_); refine wl_of rfl (hs.al zc31 ?_); intro bw w hbw hs)
              | ((with_reducible refine gd_st (ty := 31) ?_); refine wl_of rfl (hs.sta 0 rfl rfl ag31 rfl hv68 hv1 (Nat.le_of_eq rfl) (splice_all (hv68.trans rfl)) ?_); intro w hs; simp only [List.set_cons_zero] at hs)
              | ((with_reducible refine gd_ld (ty := 3) ?_); refine wl_of rfl (hs.ld 0 rfl rfl sc3 hva.out ?_))
              | ((with_reducible refine gd_ld (ty := 29) ?_); refine wl_of rfl (hs.lda 0 rfl rfl ag29 (by omega) hvs.out ?_))
              | (go_at_call 14; refine (write_any (St.drop (A := [_, _, _]) hs).has hD hops hs64).mono ?_; rintro e w' ⟨he, C2, hD2, hs'⟩; rw [if_pos hth] at he; subst he; replace hs := St.callR (A := [_, _, _]) hs hs'; clear hs' hD)
              | ((with_reducible refine gd_mu ?_); refine wl_of rfl (hs.mu 1 rfl hset Try.underlying35 Try.underlying3 (by first | exact ev rfl | rfl) (by first | exact ev rfl | rfl) rfl ?_); intro oset2 w hset2 hs; simp only [List.cons_append, List.nil_append, List.set_cons_zero, List.set_cons_succ] at hs))
            go_roundw
            case rel => exact ⟨j + 1, hlt, by go_num, C2, oset2, by rw [hnext.out]; exact hD2, by rw [htch2.out]; exact hset2, St.drop (A := [_]) hs⟩
            case measure => simp [intOf]; omega
          | false =>
            rw [hthere] at hth
            have htch2 := htch.out
            rw [if_neg (by rw [hth]; decide)] at htch2
            replace htch2 := hid htch2
            rw [← hthere] at hth
            clear hthere
            have hth2 : ¬ k.there c.2.1 = true := by rw [hth]; decide
            go_wp2_with (first
              | ((with_reducible refine gd_ia (ty := 22) ?_); refine wl_of rfl (wp_of_run (ex_indexAddr st22 rfl rfl hlt _) ?_))
              | ((with_reducible refine gd_ld (ty := 31) ?_); refine wl_of rfl (wp_lda rfl ag31 hv68 (hvc.out _ _ hs) ?_))
              | ((with_reducible refine gd_al ?_); refine wl_of rfl (hs.al zc31 ?_); intro bw w hbw hs)
              | ((with_reducible refine gd_st (ty := 31) ?_); refine wl_of rfl (hs.sta 0 rfl rfl ag31 rfl hv68 hv1 (Nat.le_of_eq rfl) (splice_all (hv68.trans rfl)) ?_); intro w hs; simp only [List.set_cons_zero] at hs)
              | ((with_reducible refine gd_ld (ty := 3) ?_); refine wl_of rfl (hs.ld 0 rfl rfl sc3 hva.out ?_))
              | ((with_reducible refine gd_ld (ty := 29) ?_); refine wl_of rfl (hs.lda 0 rfl rfl ag29 (by omega) hvs.out ?_))
              | (go_at_call 14; refine (write_any (St.drop (A := [_, _, _]) hs).has hD hops hs64).mono ?_; rintro e w' ⟨he, C2, hD2, hs'⟩; rw [if_neg hth2] at he; subst he; replace hs := St.callR (A := [_, _, _]) hs hs'; clear hs' hD))
            go_roundw
            case rel => exact ⟨j + 1, hlt, by go_num, C2, oset, by rw [hnext.out]; exact hD2, by rw [htch2.out]; exact hset, St.drop (A := [_]) hs⟩
            case measure => simp [intOf]; omega
        · obtain rfl : j = later.length := by omega
          rw [List.take_length] at hD hset
          have hplain := fun i hi => flushed_stands k2 hk2.1 (wrs later) kp torn tear i hi
          rw [hs20.out] at hplain
          have hkeep := writeAll_keeps k2 (wrs later)
          have h20 := hid (show (writeAll k2 (wrs later)).lasts.length = 20 by rw [hkeep.1, hs20.out])
          clear hkeep
          generalize writeAll k2 (wrs later) = k3 at *
          generalize touched 20 (wrs later) = S at *
          replace hplain := hid hplain
          go_wp2_with fail
          refine (crash_any (St.drop (A := [_, _]) hs).has hD (by omega) (fun w' h' => hk.out.keep (fun p v hv => (St.callR (A := [_, _]) hs h').out hv))).mono ?_
          rintro e w1 ⟨rfl, C1, hD1, hs1⟩
          replace hs1 := St.callR (A := [_, _]) hs hs1
          clear hs hD
          go_wp2_with fail
          have l4 : (k3.crash kp torn tear).lasts.length = 20 := by rw [crash_len]; exact h20.out
          have l5 : ((k3.crash kp torn tear).crash kp torn tear).lasts.length = 20 := by rw [crash_len]; exact l4
          have e45 := crash_crash_seen k3 kp torn tear
          have hsec4 := hD1.ok.seen
          refine (sectors_n (St.drop (A := [_, _]) hs1).has hD1 l4).mono ?_
          rintro e w2 ⟨gl, capl, jl, rfl, hs2, hcapl⟩
          replace hs2 := St.callR (A := [_, _]) hs1 hs2
          clear hs1
          replace l4 := hid l4
          replace l5 := hid l5
          replace e45 := hid e45
          go_wp2_with fail
          refine (crash_any (St.drop (A := [_, _, _]) hs2).has hD1 (by omega) (fun w' h' => hk.out.keep (fun p v hv => (St.callR (A := [_, _, _]) hs2 h').out hv))).mono ?_
          rintro e w3 ⟨rfl, C3, hD3, hs3⟩
          replace hs3 := St.callR (A := [_, _, _]) hs2 hs3
          clear hs2
          go_wp2_with fail
          refine (sectors_n (St.drop (A := [_, _, _]) hs3).has hD3 l5.out).mono ?_
          rintro e w4 ⟨g5, cap5, j5, rfl, hs4, hcap5⟩
          replace hs4 := St.callR (A := [_, _, _]) hs3 hs4
          clear hs3
          go_wp2_with fail
          refine (same_n (hs4.at 3 rfl) (hs4.at 2 rfl) hD3.ok.seen hsec4 (by rw [seen_len]; exact l5.out) (by rw [seen_len]; exact l4.out) (by decide) (by decide)).mono ?_
          rintro e w5 ⟨rfl, hq⟩
          replace hs4 := hs4.quiet hq
          rw [e45.out, beq_self_eq_true]
          clear hD1 hD3 hq e45
          generalize k3.crash kp torn tear = k4 at *
          go_wp2_with fail
          go_loopw [110, 20] (fun i i2 wr => ∃ j : Nat, j ≤ 20 ∧ i = .int .i64 j ∧ ∃ C, St w0 [] ((m, oset) :: (gw, row 38 (secs k2.seen ++ jw)) :: (gl, row 38 (secs k4.seen ++ jl)) :: C) wr) (fun i _ _ => 20 - (intOf i).toNat)
          case atStart => exact ⟨0, by omega, rfl, _, hs4⟩
          case round =>
            clear hs4
            obtain ⟨j, hj, rfl, C6, hs⟩ := hrel
            by_cases hlt : j < 20
            · go_wp2_with fail
              have hs' := hs.drew
              by_cases hin : (j : Int) ∈ S
              · have hd1 : decide ((j : Int) ∈ S) = true := by simpa using hin
                refine wp_region_phases [] (wsOf [World.drew _]) follows (by kernel_rfl) (by kernel_rfl) rfl ?_
                refine LinP.pure rfl rfl (ex_move (ev rfl)) (pu rfl (by simp only [List.set_cons_succ, List.set_cons_zero]; rfl)) ?_
                refine LinP.pure rfl rfl (ex_move (ev rfl)) (pu rfl (by simp only [List.set_cons_succ, List.set_cons_zero]; rfl)) ?_
                refine LinP.rd 0 rfl rfl (by kernel_rfl) (by kernel_rfl) (ex_lookup (ev rfl) (ev rfl) Try.underlying35 Try.underlying3 (by kernel_rfl) (hs'.at 0 rfl) hset) (pu rfl (by simp only [List.set_cons_succ, List.set_cons_zero]; rfl)) ?_
                rw [hd1]
                refine LinP.pure rfl rfl (ex_not (ev rfl)) (pu rfl (by simp only [List.set_cons_succ, List.set_cons_zero]; rfl)) ?_
                refine LinP.pure rfl rfl (ex_move (ev rfl)) (pu rfl (by simp only [List.set_cons_succ, List.set_cons_zero]; rfl)) ?_
                refine LinP.off rfl rfl (pu rfl (by simp only [List.set_cons_succ, List.set_cons_zero]; rfl)) ?_
                refine LinP.off rfl rfl (pu rfl (by simp only [List.set_cons_succ, List.set_cons_zero]; rfl)) ?_
                refine LinP.off rfl rfl (pu rfl (by simp only [List.set_cons_succ, List.set_cons_zero]; rfl)) ?_
                refine LinP.off rfl rfl (pu rfl (by simp only [List.set_cons_succ, List.set_cons_zero]; rfl)) ?_
                refine LinP.off rfl rfl (pu rfl (by simp only [List.set_cons_succ, List.set_cons_zero]; rfl)) ?_
                refine LinP.off rfl rfl (pu rfl (by simp only [List.set_cons_succ, List.set_cons_zero]; rfl)) ?_
                refine LinP.off rfl rfl (pu rfl (by simp only [List.set_cons_succ, List.set_cons_zero]; rfl)) ?_
                refine LinP.off rfl rfl (pu rfl (by simp only [List.set_cons_succ, List.set_cons_zero]; rfl)) ?_
                refine LinP.off rfl rfl (pu rfl (by simp only [List.set_cons_succ, List.set_cons_zero]; rfl)) ?_
                refine LinP.pure rfl rfl (ex_pick (ev rfl) rfl) (pu rfl (by simp only [List.set_cons_succ, List.set_cons_zero]; rfl)) ?_
                refine LinP.done ?_
                clear hd1 hin
                go_wp2_with fail
                go_roundw
                case rel => exact ⟨j + 1, hlt, by go_num, C6, hs'⟩
                case measure => simp [intOf]; omega
              · have hd1 : decide ((j : Int) ∈ S) = false := by simpa using hin
                have hp := hplain.out j hin
                have hj4 : j < k4.seen.length := by rw [seen_len]; have := l4.out; omega
                have hj2 : j < k2.seen.length := by rw [seen_len]; have := hs20.out; omega
                obtain ⟨f1, c1⟩ := sec_cell (junk := jl) hsec4 hj4
                obtain ⟨f2, c2⟩ := sec_cell (junk := jw) hsec2 hj2
                have heq : k4.seen[j] = k2.seen[j] := by
                  rw [List.getElem?_eq_getElem hj4, List.getElem?_eq_getElem hj2] at hp
                  exact Option.some.inj hp
                rw [heq] at c1
                have l1 := hsec2 k2.seen[j] (List.getElem_mem hj2)
                have hbin := fun w => run_neq_arr (P := Try.prog) (w := w) (kk := .u8) (t := 38) Try.underlying38 sc5 Try.underlying5 l1 l1
                simp only [beq_self_eq_true, Bool.not_true] at hbin
                refine wp_region_phases [] (wsOf [World.drew _]) follows (by kernel_rfl) (by kernel_rfl) rfl ?_
                refine LinP.pure rfl rfl (ex_move (ev rfl)) (pu rfl (by simp only [List.set_cons_succ, List.set_cons_zero]; rfl)) ?_
                refine LinP.pure rfl rfl (ex_move (ev rfl)) (pu rfl (by simp only [List.set_cons_succ, List.set_cons_zero]; rfl)) ?_
                refine LinP.rd 0 rfl rfl (by kernel_rfl) (by kernel_rfl) (ex_lookup (ev rfl) (ev rfl) Try.underlying35 Try.underlying3 (by kernel_rfl) (hs'.at 0 rfl) hset) (pu rfl (by simp only [List.set_cons_succ, List.set_cons_zero]; rfl)) ?_
                rw [hd1]
                refine LinP.pure rfl rfl (ex_not (ev rfl)) (pu rfl (by simp only [List.set_cons_succ, List.set_cons_zero]; rfl)) ?_
                refine LinP.pure rfl rfl (ex_move (ev rfl)) (pu rfl (by simp only [List.set_cons_succ, List.set_cons_zero]; rfl)) ?_
                refine LinP.pure rfl rfl (ex_move (ev rfl)) (pu rfl (by simp only [List.set_cons_succ, List.set_cons_zero]; rfl)) ?_
                refine LinP.pure rfl rfl (ex_move (ev rfl)) (pu rfl (by simp only [List.set_cons_succ, List.set_cons_zero]; rfl)) ?_
                refine LinP.pure rfl rfl (ex_indexAddr st33 (ev rfl) (ev rfl) hlt) (pu rfl (by simp only [List.set_cons_succ, List.set_cons_zero]; rfl)) ?_
                refine LinP.rd 0 rfl rfl (by kernel_rfl) (by kernel_rfl) (ex_ld_row (ev rfl) ag38 (hs'.at 2 rfl) f1 c1) (pu rfl (by simp only [List.set_cons_succ, List.set_cons_zero]; rfl)) ?_
                refine LinP.pure rfl rfl (ex_move (ev rfl)) (pu rfl (by simp only [List.set_cons_succ, List.set_cons_zero]; rfl)) ?_
                refine LinP.pure rfl rfl (ex_move (ev rfl)) (pu rfl (by simp only [List.set_cons_succ, List.set_cons_zero]; rfl)) ?_
                refine LinP.pure rfl rfl (ex_indexAddr st33 (ev rfl) (ev rfl) hlt) (pu rfl (by simp only [List.set_cons_succ, List.set_cons_zero]; rfl)) ?_
                refine LinP.rd 0 rfl rfl (by kernel_rfl) (by kernel_rfl) (ex_ld_row (ev rfl) ag38 (hs'.at 1 rfl) f2 c2) (pu rfl (by simp only [List.set_cons_succ, List.set_cons_zero]; rfl)) ?_
                refine LinP.pure rfl rfl (fun w => ex_bin (ev rfl) (ev rfl) (eqguard38 _ _ _ _ _ w) (hbin w)) (pu rfl (by simp only [List.set_cons_succ, List.set_cons_zero]; rfl)) ?_
                refine LinP.pure rfl rfl (ex_pick (ev rfl) rfl) (pu rfl (by simp only [List.set_cons_succ, List.set_cons_zero]; rfl)) ?_
                refine LinP.done ?_
                clear hd1 hin hbin hp heq
                go_wp2_with fail
                go_roundw
                case rel => exact ⟨j + 1, hlt, by go_num, C6, hs'⟩
                case measure => simp [intOf]; omega
            · have hnlt : ¬ ((j : Int) < 20) := by omega
              go_wp2_with fail
              go_ret
              exact ⟨rfl, hs.below⟩
end Go.Proofs.Ytclingkhdmhhoaa

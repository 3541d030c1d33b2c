/- The walks of package disk's functions, more: Stop, Ops, New, Sectors; and of the reference's Same. No condition. -/
import Derived.Test.YtclingkhdmhhoaaDisk4
namespace Go.Proofs.Ytclingkhdmhhoaa
open Go.RowKit
set_option linter.unusedSimpArgs false

theorem ops_any {w : World} {d : Nat} {k : Dk} {C : List (Nat × Obj)} (h : Has w C) (hd : Disk d k C) :
    Calls Try.prog 20 #[.pointer (some ⟨d, 0, none⟩)] w fun e w' => e = .returned (.int .i64 k.ops) ∧ w = w' := by
  obtain ⟨ok, bl, lv, CL, rfl, hsl⟩ := hd
  have h2 : w.cell? ⟨d, 2, none⟩ = some (.int .i64 k.ops) := row_cell ((St.start h).at 0 rfl) 2
  clear h hsl
  go_enter Try.func20, Try.ntmps20
  go_wp2
  go_ret
  exact ⟨rfl, rfl⟩

theorem dead_k {w : World} {d : Nat} {k : Dk} {C : List (Nat × Obj)} (h : Has w C) (hd : Disk d k C) :
    Calls Try.prog 21 #[.pointer (some ⟨d, 0, none⟩)] w fun e w' => e = .returned (.bool k.dead) ∧ ∃ n, w' = w.drewN n := by
  obtain ⟨ok, bl, lv, CL, rfl, hsl⟩ := hd
  exact dead_any ((St.start h).at 0 rfl)
theorem len_k {w : World} {d : Nat} {k : Dk} {C : List (Nat × Obj)} (h : Has w C) (hd : Disk d k C) :
    Calls Try.prog 52 #[.pointer (some ⟨d, 0, none⟩)] w fun e w' => e = .returned (.int .i64 k.lasts.length) ∧ w = w' := by
  obtain ⟨ok, bl, lv, CL, rfl, hsl⟩ := hd
  exact len_any ((St.start h).at 0 rfl)

def Dk.stopAt (k : Dk) (n : Int) : Dk := { k with stop := if 0 ≤ n then n else 0 }

set_option maxHeartbeats 1000000 in
set_option maxRecDepth 4000 in
theorem stop_any {w0 : World} {d : Nat} {k : Dk} {C : List (Nat × Obj)} {n : Int} (h : Has w0 C) (hd : Disk d k C) :
    Calls Try.prog 19 #[.pointer (some ⟨d, 0, none⟩), .int .i64 n] w0 fun e w' => e = .returned (.tuple #[]) ∧ ∃ C', Disk d (k.stopAt n) C' ∧ St w0 (keys C) C' w' := by
  obtain ⟨ok, bl, lv, CL, rfl, hsl⟩ := hd
  have hs := St.start h
  generalize hD : keys ([(d, row 82 [.slice (some ⟨bl, 0, none⟩) k.lasts.length k.lasts.length, lv, .int .i64 k.ops, .int .i64 k.stop]), (bl, row 38 (secs k.lasts))] ++ CL) = D at hs ⊢
  clear h hD
  have fin : ∀ w' m, m = (if 0 ≤ n then n else 0) → St w0 D ([(d, row 82 [.slice (some ⟨bl, 0, none⟩) k.lasts.length k.lasts.length, lv, .int .i64 k.ops, .int .i64 m]), (bl, row 38 (secs k.lasts))] ++ CL) w' → ∃ C', Disk d (k.stopAt n) C' ∧ St w0 D C' w' := by
    rintro w' m rfl hs'
    exact ⟨_, ⟨⟨ok.sec, ok.wrs, ok.len, ok.ops, ok.some, ok.most⟩, bl, lv, CL, rfl, hsl⟩, hs'⟩
  have fin := hid fin
  clear hsl ok
  by_cases hn : 0 ≤ n
  · have hm : ¬ (0 : Int) > n := by omega
    go_enter Try.func19, Try.ntmps19
    go_wp2_with (first | ((with_reducible refine gd_st ?_); first | (refine wl_of rfl (hs.st 0 rfl rfl (sc_of rfl) (by first | exact evc | exact ev rfl | rfl) (by rfl) (Nat.le_of_ble_eq_true rfl) ?_); intro w hs; simp only [List.cons_append, List.nil_append, List.set_cons_succ, List.set_cons_zero] at hs)))
    go_end0
    exact ⟨rfl, fin.out _ n (by rw [if_pos hn]) hs⟩
  · have hm : (0 : Int) > n := by omega
    have hn := hid hn
    go_enter Try.func19, Try.ntmps19
    go_wp2_with (first | ((with_reducible refine gd_st ?_); first | (refine wl_of rfl (hs.st 0 rfl rfl (sc_of rfl) (by first | exact evc | exact ev rfl | rfl) (by rfl) (Nat.le_of_ble_eq_true rfl) ?_); intro w hs; simp only [List.cons_append, List.nil_append, List.set_cons_succ, List.set_cons_zero] at hs)))
    go_end0
    exact ⟨rfl, fin.out _ 0 (by rw [if_neg (by omega)]) hs⟩

/-- noughts -/
def nought : List UInt8 := List.replicate 64 0
theorem sv_nought : sv nought = zsec := by simp [sv, nought, zsec, u8]
def Dk.new (n : Nat) : Dk := { lasts := List.replicate n nought, later := [], ops := 0, stop := -1 }

set_option maxHeartbeats 1000000 in
set_option maxRecDepth 4000 in
theorem new_any {w0 : World} {n : Nat} (h1 : 1 ≤ n) (h2 : n ≤ 65536) :
    Calls Try.prog 13 #[.int .i64 n] w0 fun e w' => ∃ d C, e = .returned (.tuple #[.pointer (some ⟨d, 0, none⟩), .int .i64 0]) ∧ Disk d (Dk.new n) C ∧ St w0 [] C w' := by
  have hs := St.nothing w0
  have e1 : ((n : Int) < 1) = False := by simp; omega
  have fin : ∀ d bl w', St w0 [] [(d, row 82 [.slice (some ⟨bl, 0, none⟩) n n, .slice none 0 0, .int .i64 0, .int .i64 (-1)]), (bl, row 38 (List.replicate n zsec).flatten)] w' → ∃ C, Disk d (Dk.new n) C ∧ St w0 [] C w' := by
    intro d bl w' hs'
    refine ⟨_, ⟨⟨?_, (by intro p hp; cases hp), by simp [Dk.new], by simp [Dk.new], by simpa [Dk.new] using h1, by simpa [Dk.new] using h2⟩, bl, .slice none 0 0, [], rfl, Sl.nil _ _⟩, ?_⟩
    · intro s hs
      simp only [Dk.new] at hs
      rw [List.eq_of_mem_replicate hs]; simp [nought]
    · have : secs (Dk.new n).lasts = (List.replicate n zsec).flatten := by simp [secs, Dk.new, sv_nought]
      rw [this]
      simpa [Dk.new] using hs'
  have fin := hid fin
  have h64 : 64 * n ≤ 281474976710656 := by omega
  have h64 := hid h64
  go_enter Try.func13, Try.ntmps13
  go_wp2_with (first
    | ((with_reducible refine gd_ms ?_); refine wl_of rfl (hs.ms el33 zc38 (by first | exact ev rfl | rfl) (by first | exact ev rfl | rfl) (by omega) h64.out ?_); intro bl w hbl hs)
    | ((with_reducible refine gd_bx ?_); first | (refine wl_of rfl (hs.bxa (by first | exact ev rfl | rfl) ?_); intro d w hd hs) | (refine wl_of rfl (hs.bx1 (by first | exact ev rfl | exact evc | rfl) (by rfl) ?_); intro d w hd hs)))
  obtain ⟨C, hD, hs⟩ := fin.out d bl _ hs
  go_ret2
  exact ⟨d, C, rfl, hD, hs⟩

/-- another world has these cells -/
def Cells (w : World) (b off : Nat) (l : List Value) : Prop := ∀ j v, l[j]? = some v → w.cell? ⟨b, off + j, none⟩ = some v

set_option maxHeartbeats 1000000 in
set_option maxRecDepth 4000 in
theorem clone_any {w0 : World} {b n c : Nat} {xs : List Value} (hx : Cells w0 b 0 xs) (h1 : ∀ v ∈ xs, v.oneCell' = true) (hl : xs.length = n * 64) (hn : n ≤ 1048576) (hn1 : 1 ≤ n) :
    Calls Try.prog 41 #[.slice (some ⟨b, 0, none⟩) n c] w0 fun e w' => ∃ g cap junk, e = .returned (.slice (some ⟨g, 0, none⟩) n cap) ∧ St w0 [] [(g, row 38 (xs ++ junk))] w' ∧ (xs ++ junk).length = cap * 64 ∧ n ≤ cap := by
  have hs := St.nothing w0
  have fin : ∀ v C' w', St w0 [] C' w' → Sl 38 64 v (0 + n) ([] ++ xs) C' → 1 ≤ n → ∃ g cap junk, v = .slice (some ⟨g, 0, none⟩) n cap ∧ St w0 [] [(g, row 38 (xs ++ junk))] w' ∧ (xs ++ junk).length = cap * 64 ∧ n ≤ cap := by
    intro v C' w' hs' hsl' h1n
    simp only [Nat.zero_add, List.nil_append] at hsl'
    rcases hsl'.2 with ⟨_, h0, _⟩ | ⟨g, cap, junk, rfl, rfl, hj, _, hc⟩
    · omega
    · exact ⟨g, cap, junk, rfl, hs', hj, hc⟩
  have fin := hid fin
  have hq := fun (w : World) => Go.Lib.run_eql_slice_nil (P := Try.prog) w 33 38 (some ⟨b, 0, none⟩) n c 0 0 Try.underlying33
  have hl := hid hl
  have hsrc : ∀ w H, St w0 [] H w → ∀ j v, xs[j]? = some v → w.cell? ((⟨b, 0, none⟩ : Addr).add j) = some v := by
    intro w H hs j v hv
    have h0 := hx j v hv
    rw [add_none]
    have hlt : b < w0.heap.size := by simpa using World.block_lt_of_cell? w0 _ h0
    rw [hs.cellOut hlt (by simp)]
    exact h0
  have hsrc := hid hsrc
  clear hx
  have h1 := hid h1
  go_enter Try.func41, Try.ntmps41
  go_wp2_with (first
    | ((with_reducible refine gd_bs ?_); refine wl_of rfl (hs.bs0 el33 ?_); intro g0 w hg0 hs hsl)
    | ((with_reducible refine gd_ap ?_); go_must (refine wl_of rfl (St.app [] [] (C := [_]) hs el33 hsl (by first | exact ev rfl | rfl) (by first | exact ev rfl | rfl) hl.out (hsrc.out _ _ hs) h1.out (by unfold maxLen; omega) (by omega) ?_)); intro v C' w hs hsl))
  obtain ⟨g, cap, junk, rfl, hf⟩ := fin.out v C' w (by simpa using hs) hsl hn1
  go_ret
  exact ⟨g, cap, junk, rfl, hf⟩

/-- what is seen of a disk -/
def Dk.seen (k : Dk) : List (List UInt8) := k.settled fun _ => 64
theorem put1_all {l : List (List UInt8)} {p : Nat × List UInt8} (h : Sec l) (hp : p.1 < l.length) (h2 : p.2.length = 64) : put1 l p 64 = l.set p.1 p.2 := by
  unfold put1
  congr 1
  have := h l[p.1] (List.getElem_mem hp)
  rw [List.take_of_length_le (by omega), List.drop_of_length_le (by simp [hp]; omega), List.append_nil]

set_option maxHeartbeats 1000000 in
set_option maxRecDepth 4000 in
theorem sectors_any {w0 : World} {d : Nat} {k : Dk} {C : List (Nat × Obj)} (h : Has w0 C) (hd : Disk d k C) :
    Calls Try.prog 16 #[.pointer (some ⟨d, 0, none⟩)] w0 fun e w' => ∃ g cap junk, e = .returned (.slice (some ⟨g, 0, none⟩) k.lasts.length cap) ∧ St w0 (keys C) ((g, row 38 (secs k.seen ++ junk)) :: C) w' ∧ k.lasts.length ≤ cap := by
  obtain ⟨ok, bl, lv, CL, rfl, hsl⟩ := hd
  have hs := St.start h
  generalize hD : keys ([(d, row 82 [.slice (some ⟨bl, 0, none⟩) k.lasts.length k.lasts.length, lv, .int .i64 k.ops, .int .i64 k.stop]), (bl, row 38 (secs k.lasts))] ++ CL) = D at hs ⊢
  clear h hD
  obtain ⟨la, lc, hlv⟩ : ∃ la lc, lv = .slice la k.later.length lc := by
    rcases hsl.2 with ⟨e, h0, _⟩ | ⟨g, c, j, e, _⟩
    · exact ⟨_, _, by rw [e, h0]⟩
    · exact ⟨_, _, e⟩
  subst hlv
  have hlast := ok.most
  have hlen1 := ok.some
  have hseclen : (secs k.lasts).length = k.lasts.length * 64 := by have := flat_len ok.sec.cells; simpa [secs] using this
  have hone : ∀ v ∈ secs k.lasts, v.oneCell' = true := by
    intro v hv
    simp only [secs, List.mem_flatten, List.mem_map] at hv
    obtain ⟨l, ⟨s, _, rfl⟩, hv⟩ := hv
    exact one_sv s v hv
  have hclone : ∀ w, St w0 D ([(d, row 82 [.slice (some ⟨bl, 0, none⟩) k.lasts.length k.lasts.length, .slice la k.later.length lc, .int .i64 k.ops, .int .i64 k.stop]), (bl, row 38 (secs k.lasts))] ++ CL) w →
      Calls Try.prog 41 #[.slice (some ⟨bl, 0, none⟩) k.lasts.length k.lasts.length] w fun e w' => ∃ g cap junk, e = .returned (.slice (some ⟨g, 0, none⟩) k.lasts.length cap) ∧
        St w0 D ((g, row 38 (secs k.lasts ++ junk)) :: ([(d, row 82 [.slice (some ⟨bl, 0, none⟩) k.lasts.length k.lasts.length, .slice la k.later.length lc, .int .i64 k.ops, .int .i64 k.stop]), (bl, row 38 (secs k.lasts))] ++ CL)) w' ∧ k.lasts.length ≤ cap := by
    intro w hs
    refine (clone_any (xs := secs k.lasts) (fun j v hv => by rw [row_cell (hs.at 1 rfl), Nat.zero_add]; exact hv) hone hseclen (by omega) hlen1).mono ?_
    rintro e w' ⟨g, cap, junk, rfl, hs', _, hc⟩
    refine ⟨g, cap, junk, rfl, ?_, hc⟩
    exact St.call (A := []) (H := []) (H' := [_]) (B := [_, _] ++ CL) hs hs'
  replace hclone := hid hclone
  have hlen : k.later.length ≤ 1073741824 := by have := ok.len; have := ok.ops; omega
  go_enter Try.func16, Try.ntmps16
  go_wp2_with (first
    | ((with_reducible refine gd_ld ?_); first | refine wl_of rfl (hs.ld 0 rfl rfl (sc_of rfl) rfl ?_) | refine wl_of rfl (hs.ld 1 rfl rfl (sc_of rfl) rfl ?_))
    | (go_at_call 41; refine (hclone.out _ hs).mono ?_; rintro e w ⟨g, cap, junk, rfl, hs, hcap⟩))
  go_loopw [16] (fun i wr => ∃ j : Nat, j ≤ k.later.length ∧ i = .int .i64 j ∧
      St w0 D ((g, row 38 (secs (settleM (fun _ => 64) 0 (k.later.take j) k.lasts) ++ junk)) :: ([(d, row 82 [.slice (some ⟨bl, 0, none⟩) k.lasts.length k.lasts.length, .slice la k.later.length lc, .int .i64 k.ops, .int .i64 k.stop]), (bl, row 38 (secs k.lasts))] ++ CL)) wr)
    (fun i _ => k.later.length - (intOf i).toNat)
  case atStart => exact ⟨0, Nat.zero_le _, rfl, by simpa [settleM] using hs⟩
  case round =>
    clear hs hclone hseclen hone
    obtain ⟨j, hj, rfl, hs⟩ := hrel
    by_cases hlt : j < k.later.length
    · obtain ⟨gl, junk2, rfl, rfl⟩ : ∃ g junk, la = some ⟨g, 0, none⟩ ∧ CL = [(g, row 85 (wvs k.later ++ junk))] := by
        rcases hsl.2 with ⟨_, h0, _⟩ | ⟨g, c, j, e, e2, _⟩
        · omega
        · simp only [Value.slice.injEq] at e
          exact ⟨g, j, e.1, e2⟩
      obtain ⟨p, hpk0⟩ : ∃ p, k.later[j]? = some p := ⟨_, List.getElem?_eq_getElem hlt⟩
      have hp : (k.later.map wv)[j]? = some (wv p) := by simp [hpk0]
      have hcut : cut (wvs k.later ++ junk2) (0 + j * 65) 65 = wv p := by rw [Nat.zero_add]; exact flat_cut ok.wrs.cells hp
      have hfit : 0 + j * 65 + 65 ≤ (wvs k.later ++ junk2).length := by
        have h1 : (wvs k.later).length = k.later.length * 65 := by have := flat_len ok.wrs.cells; simpa [wvs] using this
        have h2 : j * 65 + 65 ≤ k.later.length * 65 := by omega
        simp only [List.length_append]; omega
      obtain ⟨hp1, hp2⟩ := ok.wrs p (List.mem_of_getElem? hpk0)
      have hwl : (wv p).length = 65 := by simp [wv, length_sv, hp2]
      have hw1 : ∀ v ∈ wv p, v.oneCell' = true := List.forall_mem_cons.2 ⟨rfl, one_sv _⟩
      have hcut2 : cut (wv p) (0 + 1) 64 = sv p.2 := by
        simp only [cut, wv, Nat.zero_add, List.drop_succ_cons, List.drop_zero]
        exact List.take_of_length_le (by rw [length_sv]; omega)
      have hfit2 : 0 + 1 + 64 ≤ (wv p).length := by omega
      have hfin := settleM_snoc (fun _ => 64) p (k.later.take j) 0 k.lasts
      have htk : k.later.take (j + 1) = k.later.take j ++ [p] := by rw [List.take_add_one, hpk0]; rfl
      rw [← htk] at hfin
      obtain ⟨hLs, hLl⟩ := settleM_ok (f := fun _ => 64) (fun _ => Nat.le_refl _) (k.later.take j) 0 k.lasts ok.sec (fun q hq => ok.wrs q (List.mem_of_mem_take hq))
      replace hfin := hid hfin
      clear htk
      generalize settleM (fun _ => 64) 0 (k.later.take j) k.lasts = L at *
      generalize hL' : settleM (fun _ => 64) 0 (k.later.take (j + 1)) k.lasts = L' at *
      replace hL' := hid hL'
      have hsp := splice_put1 (n := 64) hLs (by omega) hp2 (Nat.le_refl _)
      rw [← hfin.out, List.take_of_length_le (by omega)] at hsp
      have hLlen : (secs L).length = L.length * 64 := by have := flat_len hLs.cells; simpa [secs] using this
      have hat : (p.1 + 1) * 64 ≤ L.length * 64 := Nat.mul_le_mul_right _ (by omega)
      have hsp2 : splice (secs L ++ junk) (0 + p.1 * 64) (sv p.2) = secs L' ++ junk := by
        rw [Nat.zero_add, splice_app (by rw [length_sv]; omega), hsp]
      have hfit3 : 0 + p.1 * 64 + 64 ≤ (secs L ++ junk).length := by simp only [List.length_append]; omega
      have hl64 : (sv p.2).length = 64 := by rw [length_sv]; exact hp2
      replace hsp2 := hid hsp2
      replace hcut := hid hcut
      replace hcut2 := hid hcut2
      replace hl64 := hid hl64
      clear hp hpk0 hsp hLlen hat
      go_wp2_with (first
        | ((with_reducible refine gd_ia (ty := 80) ?_); refine wl_of rfl (wp_of_run (ex_indexAddr st80 rfl rfl hlt _) ?_))
        | ((with_reducible refine gd_ia (ty := 33) ?_); refine wl_of rfl (wp_of_run (ex_indexAddr st33 rfl rfl hp1 _) ?_))
        | ((with_reducible refine gd_ld (ty := 85) ?_); refine wl_of rfl (hs.lda 3 rfl rfl ag85 hfit hcut.out ?_))
        | ((with_reducible refine gd_ld (ty := 38) ?_); refine wl_of rfl (hs.lda 0 rfl rfl ag38 hfit2 hcut2.out ?_))
        | ((with_reducible refine gd_ld ?_); first | refine wl_of rfl (hs.ld 0 rfl rfl (sc_of rfl) rfl ?_))
        | ((with_reducible refine gd_al ?_); refine wl_of rfl (hs.al zc85 ?_); intro bw w hbw hs)
        | ((with_reducible refine gd_st (ty := 85) ?_); refine wl_of rfl (hs.sta 0 rfl rfl ag85 rfl hwl hw1 (Nat.le_of_eq rfl) (splice_all (hwl.trans rfl)) ?_); intro w hs; simp only [List.set_cons_zero] at hs)
        | ((with_reducible refine gd_st (ty := 38) ?_); refine wl_of rfl (hs.sta 1 rfl rfl ag38 rfl hl64.out (one_sv _) hfit3 hsp2.out ?_); intro w hs; simp only [List.set_cons_zero, List.set_cons_succ] at hs))
      go_roundw
      case rel => exact ⟨j + 1, hlt, by go_num, by rw [hL'.out]; exact St.drop (A := [_]) hs⟩
      case measure => simp [intOf]; omega
    · obtain rfl : j = k.later.length := by omega
      rw [List.take_length] at hs
      go_wp2_with fail
      go_ret
      exact ⟨g, cap, junk, rfl, hs, hcap⟩
end Go.Proofs.Ytclingkhdmhhoaa

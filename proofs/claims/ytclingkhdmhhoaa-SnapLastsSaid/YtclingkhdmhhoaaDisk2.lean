/- The walks of package disk's functions, more: settle. No condition. -/
import Derived.Test.YtclingkhdmhhoaaDisk
namespace Go.Proofs.Ytclingkhdmhhoaa
open Go.RowKit
set_option linter.unusedSimpArgs false

/-- sectors, as cells -/
def secs (l : List (List UInt8)) : List Value := (l.map sv).flatten
/-- a write, as cells -/
def wv (p : Nat × List UInt8) : List Value := .int .i64 p.1 :: sv p.2
def wvs (l : List (Nat × List UInt8)) : List Value := (l.map wv).flatten

def Sec (l : List (List UInt8)) : Prop := ∀ s ∈ l, s.length = 64
def Wrs (n : Nat) (l : List (Nat × List UInt8)) : Prop := ∀ p ∈ l, p.1 < n ∧ p.2.length = 64

theorem Sec.cells {l : List (List UInt8)} (h : Sec l) : ∀ x ∈ l.map sv, x.length = 64 := by
  intro x hx
  obtain ⟨s, hs, rfl⟩ := List.mem_map.1 hx
  rw [length_sv]; exact h s hs
theorem Wrs.cells {n : Nat} {l : List (Nat × List UInt8)} (h : Wrs n l) : ∀ x ∈ l.map wv, x.length = 65 := by
  intro x hx
  obtain ⟨p, hp, rfl⟩ := List.mem_map.1 hx
  simp [wv, length_sv, (h p hp).2]

/-- so many bytes of a write last -/
def put1 (l : List (List UInt8)) (p : Nat × List UInt8) (n : Nat) : List (List UInt8) := l.set p.1 (p.2.take n ++ (l.getD p.1 []).drop n)
def settleM (f : Nat → Nat) : Nat → List (Nat × List UInt8) → List (List UInt8) → List (List UInt8)
  | _, [], l => l
  | i, p :: ps, l => settleM f (i + 1) ps (put1 l p (f i))

theorem settleM_snoc (f : Nat → Nat) (p : Nat × List UInt8) : ∀ (ps : List (Nat × List UInt8)) (i : Nat) (l : List (List UInt8)), settleM f i (ps ++ [p]) l = put1 (settleM f i ps l) p (f (i + ps.length))
  | [], i, l => by simp [settleM]
  | q :: ps, i, l => by
    simp only [List.cons_append, settleM, List.length_cons]
    rw [settleM_snoc f p ps (i + 1)]
    congr 2; omega
theorem put1_len {l : List (List UInt8)} {p : Nat × List UInt8} {n : Nat} : (put1 l p n).length = l.length := by simp [put1]
theorem put1_sec {l : List (List UInt8)} {p : Nat × List UInt8} {n : Nat} (h : Sec l) (hp : p.1 < l.length) (h2 : p.2.length = 64) (hn : n ≤ 64) : Sec (put1 l p n) := by
  intro s hs
  unfold put1 at hs
  rcases List.mem_or_eq_of_mem_set hs with hs | rfl
  · exact h s hs
  · have := h l[p.1] (List.getElem_mem hp)
    simp [h2, hp, this]; omega
theorem settleM_ok {f : Nat → Nat} (hf : ∀ i, f i ≤ 64) : ∀ (ps : List (Nat × List UInt8)) (i : Nat) (l : List (List UInt8)), Sec l → Wrs l.length ps → Sec (settleM f i ps l) ∧ (settleM f i ps l).length = l.length
  | [], i, l, h, _ => ⟨h, rfl⟩
  | p :: ps, i, l, h, hp => by
    have h1 := put1_sec (n := f i) h (hp p (by simp)).1 (hp p (by simp)).2 (hf i)
    have := settleM_ok hf ps (i + 1) (put1 l p (f i)) h1 (by rw [put1_len]; exact fun q hq => hp q (by simp [hq]))
    rw [put1_len] at this
    exact this

theorem getD_map_sv {l : List (List UInt8)} {i : Nat} (h : i < l.length) : (l.map sv)[i]? = some (sv (l.getD i [])) := by simp [h]
theorem sv_take (s : List UInt8) (n : Nat) : sv (s.take n) = (sv s).take n := by simp [sv]
theorem splice_put1 {l : List (List UInt8)} {p : Nat × List UInt8} {n : Nat} (h : Sec l) (hp : p.1 < l.length) (h2 : p.2.length = 64) (hn : n ≤ 64) :
    splice (secs l) (p.1 * 64) (sv (p.2.take n)) = secs (put1 l p n) := by
  have e := flat_splice_part h.cells (getD_map_sv hp) (o := 0) (vs := sv (p.2.take n)) (by simp [length_sv]; omega)
  rw [Nat.add_zero] at e
  unfold secs put1
  rw [e, List.map_set]
  congr 2
  unfold splice
  have h64 : (l.getD p.1 []).length = 64 := by simp [hp]; exact h _ (List.getElem_mem hp)
  have : min n p.2.length = n := by omega
  simp [sv, length_sv, this]

set_option maxRecDepth 4000 in
set_option maxHeartbeats 1000000 in
theorem settle_any {w : World} {d bl cap : Nat} {lasts : List (List UInt8)} {later : List (Nat × List UInt8)} {lv o st : Value} {CL F : List (Nat × Obj)} {f : Nat} {first caps : Array Value} {bs : Nat → Nat}
    (h : Has w ([(d, row 82 [.slice (some ⟨bl, 0, none⟩) lasts.length cap, lv, o, st]), (bl, row 38 (secs lasts))] ++ CL ++ F)) (hS : Sec lasts) (hW : Wrs lasts.length later) (hsl : Sl 85 65 lv later.length (wvs later) CL)
    (hn : later.length ≤ 1073741824) (hbs : ∀ i, bs i ≤ 64) (hcf : ∀ args w, (callFunc f args).run Try.prog w = .ok (.enter f args) w)
    (hb : ∀ i, i < later.length → ∀ C' w', St w (keys ([(d, row 82 [.slice (some ⟨bl, 0, none⟩) lasts.length cap, lv, o, st]), (bl, row 38 (secs lasts))] ++ CL ++ F)) (C' ++ F) w' →
      Calls Try.prog f (first.push (.int .i64 i) ++ caps) w' fun e w'' => e = .returned (.int .i64 (bs i)) ∧ ∃ n, w'' = w'.drewN n) :
    Calls Try.prog 42 #[.pointer (some ⟨d, 0, none⟩), .func (.func f) first caps] w fun e w' => e = .returned (.tuple #[]) ∧
      St w (keys ([(d, row 82 [.slice (some ⟨bl, 0, none⟩) lasts.length cap, lv, o, st]), (bl, row 38 (secs lasts))] ++ CL ++ F))
        ([(d, row 82 [.slice (some ⟨bl, 0, none⟩) lasts.length cap, .slice none 0 0, o, st]), (bl, row 38 (secs (settleM bs 0 later lasts)))] ++ F) w' := by
  have hs := St.start h
  generalize hD : keys ([(d, row 82 [.slice (some ⟨bl, 0, none⟩) lasts.length cap, lv, o, st]), (bl, row 38 (secs lasts))] ++ CL ++ F) = D at hs hb ⊢
  replace hb := hid hb
  clear h
  obtain ⟨la, lc, hlv⟩ : ∃ la lc, lv = .slice la later.length lc := by
    rcases hsl.2 with ⟨e, h0, _⟩ | ⟨g, c, j, e, _⟩
    · exact ⟨_, _, by rw [e, h0]⟩
    · exact ⟨_, _, e⟩
  clear hD
  subst hlv
  go_enter Try.func42, Try.ntmps42
  go_wp2_with (first
    | ((with_reducible refine gd_ld (ty := 80) ?_); refine wl_of rfl (hs.ld 0 rfl rfl sc80 rfl ?_)))
  have hlen : later.length ≤ 1073741824 := hn
  go_loopw [12] (fun i wr => ∃ k : Nat, k ≤ later.length ∧ i = .int .i64 k ∧
      St w D ([(d, row 82 [.slice (some ⟨bl, 0, none⟩) lasts.length cap, .slice la later.length lc, o, st]), (bl, row 38 (secs (settleM bs 0 (later.take k) lasts)))] ++ CL ++ F) wr)
    (fun i _ => later.length - (intOf i).toNat)
  case atStart => exact ⟨0, Nat.zero_le _, rfl, by simpa [settleM] using hs⟩
  case round =>
    clear hs
    obtain ⟨k, hk, rfl, hs⟩ := hrel
    by_cases hlt : k < later.length
    · obtain ⟨g, junk, rfl, rfl⟩ : ∃ g junk, la = some ⟨g, 0, none⟩ ∧ CL = [(g, row 85 (wvs later ++ junk))] := by
        rcases hsl.2 with ⟨_, h0, _⟩ | ⟨g, c, j, e, e2, _⟩
        · omega
        · simp only [Value.slice.injEq] at e
          exact ⟨g, j, e.1, e2⟩
      obtain ⟨p, hpk0⟩ : ∃ p, later[k]? = some p := ⟨_, List.getElem?_eq_getElem hlt⟩
      have hp : (later.map wv)[k]? = some (wv p) := by simp [hpk0]
      have hcut : cut (wvs later ++ junk) (0 + k * 65) 65 = wv p := by rw [Nat.zero_add]; exact flat_cut hW.cells hp
      have hfit : 0 + k * 65 + 65 ≤ (wvs later ++ junk).length := by
        have h1 : (wvs later).length = later.length * 65 := by have := flat_len hW.cells; simpa [wvs] using this
        have h2 : k * 65 + 65 ≤ later.length * 65 := by omega
        simp only [List.length_append]; omega
      obtain ⟨hp1, hp2⟩ := hW p (List.mem_of_getElem? hpk0)
      have hwl : (wv p).length = 65 := by simp [wv, length_sv, hp2]
      have hw1 : ∀ v ∈ wv p, v.oneCell' = true := List.forall_mem_cons.2 ⟨rfl, one_sv _⟩
      have hbk := hbs k
      have hfin := settleM_snoc bs p (later.take k) 0 lasts
      have htk : later.take (k + 1) = later.take k ++ [p] := by rw [List.take_add_one, hpk0]; rfl
      rw [← htk, List.length_take, Nat.min_eq_left hk, Nat.zero_add] at hfin
      obtain ⟨hLs, hLl⟩ := settleM_ok hbs (later.take k) 0 lasts hS (fun q hq => hW q (List.mem_of_mem_take hq))
      replace hfin := hid hfin
      clear htk
      generalize settleM bs 0 (later.take k) lasts = L at *
      generalize hL' : settleM bs 0 (later.take (k + 1)) lasts = L' at *
      replace hL' := hid hL'
      have hsp := splice_put1 (n := bs k) hLs (by omega) hp2 hbk
      rw [← hfin.out] at hsp
      replace hsp := hid hsp
      replace hcut := hid hcut
      clear hp hpk0
      go_wp2_with (first
        | ((with_reducible refine gd_ia ?_); refine wl_of rfl (wp_of_run (ex_indexAddr st80 rfl rfl hlt _) ?_))
        | ((with_reducible refine gd_ld (ty := 85) ?_); refine wl_of rfl (hs.lda 2 rfl rfl ag85 hfit hcut.out ?_))
        | ((with_reducible refine gd_al ?_); refine wl_of rfl (hs.al zc85 ?_); intro bw w hbw hs)
        | ((with_reducible refine gd_st ?_); refine wl_of rfl (hs.sta 0 rfl rfl ag85 rfl hwl hw1 (Nat.le_of_eq rfl) (splice_all (hwl.trans rfl)) ?_); intro w hs)
        | (refine ((hb.out k hlt (_ :: ([_, _] ++ [_])) _ hs)).mono ?_; rintro e w ⟨rfl, hq⟩; replace hs := hs.quiet hq; clear hq))
      have hs0 := hs.drew
      have hbl := hs0.at 2 rfl
      have hbw := hs0.at 0 rfl
      have hd := hs0.at 1 rfl
      have hs1 := hs0.setAt (k := 2) rfl (row 38 (secs L'))
      have hcl : (sv (p.2.take (bs k))).length = bs k := by simp [length_sv, hp2]; omega
      have hsrc : ∀ j v, (sv (p.2.take (bs k)))[j]? = some v → w.drew.cell? ((⟨bw, 0 + 1, none⟩ : Addr).add j) = some v := by
        intro j v hv
        rw [add_none, row_cell hbw]
        rw [sv_take, List.getElem?_take] at hv
        split at hv
        · rw [show 0 + 1 + j = j + 1 by omega]; simpa [wv] using hv
        · cases hv
      have hsp2 : splice (secs L) (0 + p.1 * 64) (sv (p.2.take (bs k))) = secs L' := by rw [Nat.zero_add]; exact hsp.out
      have hfit2 : 0 + p.1 * 64 + (sv (p.2.take (bs k))).length ≤ (secs L).length := by
        have e1 : (secs L).length = L.length * 64 := by have := flat_len hLs.cells; simpa [secs] using this
        have e2 : (p.1 + 1) * 64 ≤ L.length * 64 := Nat.mul_le_mul_right _ (by omega)
        omega
      replace hsp2 := hid hsp2
      have hLl' : L.length = lasts.length := by omega
      refine wp_region_phases [12] (wsOf [w.drew, setBlk w.drew bl (row 38 (secs L'))]) follows (by kernel_rfl) (by kernel_rfl) rfl ?_
      refine LinP.pure rfl rfl (ex_move (ev rfl)) (pu rfl (by simp only [List.set_cons_succ, List.set_cons_zero]; rfl)) ?_
      refine LinP.pure rfl rfl (ex_nilCheck (ev rfl)) (pu rfl (by simp only [List.set_cons_succ, List.set_cons_zero]; rfl)) ?_
      refine LinP.pure rfl rfl (ex_fieldAddr fa82_0 (ev rfl)) (pu rfl (by simp only [List.set_cons_succ, List.set_cons_zero]; rfl)) ?_
      refine LinP.rd 0 rfl rfl (by kernel_rfl) (by kernel_rfl) (ex_ld_s (ev rfl) sc33 (row_cell hd 0)) (pu rfl (by simp only [List.set_cons_succ, List.set_cons_zero]; rfl)) ?_
      refine LinP.pure rfl rfl (ex_fieldAddr fa85_0 (ev rfl)) (pu rfl (by simp only [List.set_cons_succ, List.set_cons_zero]; rfl)) ?_
      refine LinP.rd 0 rfl rfl (by kernel_rfl) (by kernel_rfl) (ex_ld_s (ev rfl) sc3 (row_cell hbw 0)) (pu rfl (by simp only [List.set_cons_succ, List.set_cons_zero]; rfl)) ?_
      refine LinP.pure rfl rfl (ex_indexAddr st33 (ev rfl) (ev rfl) hp1) (pu rfl (by simp only [List.set_cons_succ, List.set_cons_zero]; rfl)) ?_
      refine LinP.pure rfl rfl (ex_move (ev rfl)) (pu rfl (by simp only [List.set_cons_succ, List.set_cons_zero]; rfl)) ?_
      refine LinP.pure rfl rfl (ex_sliceArr ar38 (ev rfl) (ev rfl) hbk) (pu rfl (by simp only [List.set_cons_succ, List.set_cons_zero]; rfl)) ?_
      refine LinP.pure rfl rfl (ex_fieldAddr fa85_1 (ev rfl)) (pu rfl (by simp only [List.set_cons_succ, List.set_cons_zero]; rfl)) ?_
      refine LinP.pure rfl rfl (ex_move (ev rfl)) (pu rfl (by simp only [List.set_cons_succ, List.set_cons_zero]; rfl)) ?_
      refine LinP.pure rfl rfl (ex_sliceArr ar38 (ev rfl) (ev rfl) hbk) (pu rfl (by simp only [List.set_cons_succ, List.set_cons_zero]; rfl)) ?_
      refine LinP.write 0 rfl rfl (by kernel_rfl) (by kernel_rfl) (ex_copy (cs := sv (p.2.take (bs k))) st43 (ev rfl) (ev rfl) hbl (by rw [hcl]; exact (Nat.min_self _).symm) hsrc hfit2 (one_sv _) hsp2.out) (pu rfl (by simp only [List.set_cons_succ, List.set_cons_zero]; rfl)) ?_
      refine LinP.done ?_
      go_wp2_with fail
      go_roundw
      case rel => exact ⟨k + 1, hlt, by go_num, by rw [hL'.out]; exact St.drop (A := [_]) hs1⟩
      case measure => simp [intOf]; omega
    · obtain rfl : k = later.length := by omega
      rw [List.take_length] at hs
      go_wp2_with (first | ((with_reducible refine gd_st ?_); first | (refine wl_of rfl (hs.st 0 rfl rfl (sc_of rfl) (by first | exact evc | exact ev rfl | rfl) (by rfl) (Nat.le_of_ble_eq_true rfl) ?_); intro w hs; simp only [List.cons_append, List.nil_append, List.set_cons_succ, List.set_cons_zero] at hs)))
      go_end0
      exact ⟨rfl, St.dropMid (A := [_, _]) hs⟩
end Go.Proofs.Ytclingkhdmhhoaa

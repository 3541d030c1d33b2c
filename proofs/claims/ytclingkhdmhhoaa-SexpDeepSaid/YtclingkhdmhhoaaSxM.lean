/- Chapter 8: the walk of the law SexpDeep. No condition. -/
import Derived.Test.YtclingkhdmhhoaaSxH
namespace Go.Proofs.Ytclingkhdmhhoaa
open Go.RowKit
set_option linter.unusedSimpArgs false
set_option linter.unusedVariables false

def opn (i : Nat) : Tok := ⟨1, [40], i⟩
def cls (k i : Nat) : Tok := ⟨2, [41], ((k + i : Nat) : Int)⟩
def opns (k : Nat) : List Tok := (List.range k).map opn
def clss (k i : Nat) : List Tok := (List.range i).map (cls k)
theorem opns_succ (k : Nat) : opns (k + 1) = opns k ++ [opn k] := by simp [opns, List.range_succ]
theorem clss_succ (k i : Nat) : clss k (i + 1) = clss k i ++ [cls k i] := by simp [clss, List.range_succ]
theorem opns_len (k : Nat) : (opns k).length = k := by simp [opns]
theorem clss_len (k i : Nat) : (clss k i).length = i := by simp [clss]
def stk : Nat → List Frm
  | 0 => [(zTok, [])]
  | j + 1 => (opn j, []) :: stk j
theorem stk_cons : ∀ j, ∃ t r, stk j = (t, []) :: r ∧ r.length = j
  | 0 => ⟨zTok, [], rfl, rfl⟩
  | j + 1 => by
    obtain ⟨t, r, h, hl⟩ := stk_cons j
    exact ⟨opn j, stk j, rfl, by rw [h, List.length_cons, hl]⟩
theorem goS_opens : ∀ (m j : Nat) (cl : List Tok), j ≤ 1000 →
    goS (stk j) ((List.range' j m).map opn ++ cl) = if j + m ≤ 1000 then goS (stk (j + m)) cl else .error (18, 1000)
  | 0, j, cl, h => by simp [h]
  | m + 1, j, cl, h => by
    obtain ⟨t, r, hs, hl⟩ := stk_cons j
    rw [List.range'_succ, List.map_cons, List.cons_append, hs, goS_open rfl, hl]
    by_cases hj : j = 1000
    · subst hj
      rw [if_pos rfl, if_neg (by omega)]; rfl
    · rw [if_neg hj]
      have h2 := goS_opens m (j + 1) cl (by omega)
      rw [show j + 1 + m = j + (m + 1) by omega] at h2
      rw [← h2]
      show goS ((opn j, []) :: (t, []) :: r) _ = goS ((opn j, []) :: stk j) _
      rw [hs]
/-- lists within one another, the innermost with these kids -/
def tower : Nat → List Tr → Tr
  | 0, ks => .mk true (opn 0) ks
  | j + 1, ks => tower j [.mk true (opn (j + 1)) ks]
theorem goS_closes : ∀ (j : Nat) (ks : List Tr) (cl : List Tok), cl.length = j + 1 → (∀ t ∈ cl, t.kind = 2) → goS ((opn j, ks) :: stk j) cl = .ok [tower j ks]
  | 0, ks, [c], _, h => by
    show goS [(opn 0, ks), (zTok, [])] [c] = _
    rw [goS_close (h c (by simp))]; rfl
  | j + 1, ks, c :: cl, hl, h => by
    show goS ((opn (j + 1), ks) :: (opn j, []) :: stk j) (c :: cl) = _
    rw [goS_close (h c (by simp))]
    exact goS_closes j _ cl (by simpa using hl) fun t ht => h t (by simp [ht])
  | 0, ks, [], hl, _ => by simp at hl
  | 0, ks, _ :: _ :: _, hl, _ => by simp at hl
  | j + 1, ks, [], hl, _ => by simp at hl
theorem clss_kind (k i : Nat) : ∀ t ∈ clss k i, t.kind = 2 := by
  intro t ht
  obtain ⟨a, _, rfl⟩ := List.mem_map.1 ht
  rfl
theorem deep_ok {k : Nat} (h : k + 1 ≤ 1000) : readS (opns (k + 1) ++ clss (k + 1) (k + 1)) = .ok [tower k []] := by
  have h1 := goS_opens (k + 1) 0 (clss (k + 1) (k + 1)) (by omega)
  rw [Nat.zero_add, if_pos h, ← List.range_eq_range'] at h1
  show goS (stk 0) _ = _
  unfold opns
  rw [h1]
  exact goS_closes k [] _ (clss_len _ _) (clss_kind _ _)
theorem deep_bad {k : Nat} (h : 1000 < k) : readS (opns k ++ clss k k) = .error (18, 1000) := by
  have h1 := goS_opens k 0 (clss k k) (by omega)
  rw [Nat.zero_add, if_neg (by omega), ← List.range_eq_range'] at h1
  exact h1
theorem tower_lev : ∀ (j d : Nat) (ks : List Tr), Lev d ks → Lev (d + j + 1) [tower j ks]
  | 0, d, ks, h => ⟨rfl, by simp, by simpa [kidsOf, tower, Tr.inn] using h⟩
  | j + 1, d, ks, h => by
    have h1 : Lev (d + 1) [.mk true (opn (j + 1)) ks] := ⟨rfl, by simp, by simpa [kidsOf, Tr.inn] using h⟩
    have h2 := tower_lev j (d + 1) _ h1
    rw [show d + 1 + j + 1 = d + (j + 1) + 1 by omega] at h2
    exact h2
theorem deep_lev (k : Nat) : Lev (k + 1) [tower k []] := by
  have := tower_lev k 0 [] ⟨rfl, by simp⟩
  rw [Nat.zero_add] at this; exact this
theorem tower_top : ∀ (j : Nat) (ks : List Tr), ∃ ks', tower j ks = .mk true (opn 0) ks'
  | 0, ks => ⟨ks, rfl⟩
  | j + 1, ks => tower_top j _

theorem and63 (n : Int) : ∃ r : Nat, r < 64 ∧ bits BinOp.and .i64 n 63 = (r : Int) := by
  refine ⟨(BitVec.ofInt 64 n &&& BitVec.ofInt 64 63).toNat, ?_, ?_⟩
  · rw [BitVec.toNat_and]
    have h : (BitVec.ofInt 64 63).toNat = 63 := rfl
    rw [h]
    have := Nat.and_le_right (n := (BitVec.ofInt 64 n).toNat) (m := 63)
    omega
  · show IntKind.i64.wrap ((BitVec.ofInt 64 n &&& BitVec.ofInt 64 63).toNat : Int) = _
    have h2 : (BitVec.ofInt 64 n &&& BitVec.ofInt 64 63).toNat ≤ 63 := by
      rw [BitVec.toNat_and]
      exact Nat.and_le_right (m := 63)
    rw [IntKind.wrap_i64]
    omega
set_option maxHeartbeats 2000000 in
set_option maxRecDepth 4000 in
theorem sdeep_any (n : Int) (w0 : World) : Calls Try.prog 10 #[.int .i64 n] w0 fun e w' => e = .returned (.bool true) ∧ Below w0.heap.size w0 w' := by
  have hs := St.nothing w0
  go_enter Try.func10, Try.ntmps10
  go_upto_region 4 with (first
    | (go_at_call 31; refine (speaks8 _).mono ?_; rintro e w ⟨rfl, hs'⟩; replace hs := hs.plus hs'; clear hs'; simp only [List.append_nil] at hs))
  obtain ⟨r, hr, hb⟩ := and63 n
  obtain ⟨K, hK⟩ : ∃ K, r + 970 = K := ⟨_, rfl⟩
  have hw : wrap64 (bits BinOp.and .i64 n 63 + 970) = (K : Int) := by rw [hb]; unfold wrap64; omega
  simp only [hw]
  have hK1 : 970 ≤ K := by omega
  have hK2 : K ≤ 1033 := by omega
  clear hw hK hr hb
  go_wp2_with (first
    | ((with_reducible refine gd_bs (n := 0) ?_); refine wl_of rfl (hs.bs0 el44 ?_); intro g0 w hg0 hs hsl0; replace hsl0 := hid hsl0))
  go_loopg [4, 5] K (fun g lv iv wr => ∃ (j : Nat) (C : List (Nat × Obj)), iv = .int .i64 j ∧ j ≤ K ∧ g = K - j ∧ Hid (Sl 54 3 lv j (tcells (opns j)) C) ∧ St w0 [] C wr)
  case atStart => exact ⟨0, _, rfl, Nat.zero_le _, rfl, hsl0, hs⟩
  case round =>
    clear hs hsl0
    obtain ⟨j, C, rfl, hj, rfl, hsl, hs⟩ := hrel
    by_cases hlt : j < K
    · have qj : decide (j < K) = true := by simpa using hlt
      have hsn := tcells_snoc (opns j) (opn j)
      rw [← opns_succ] at hsn
      replace hsn := hid hsn
      go_wp2_with (first
        | ((with_reducible refine gd_bd ?_); refine wl_of rfl (wp_of_run (ex_build rfl (run_build54 _ 1 j ⟨#[40]⟩)) ?_))
        | ((with_reducible refine gd_bs ?_); refine wl_of rfl (hs.bs1 el44 (by decide) rfl (vs := Tok.cells (opn j)) rfl rfl ?_); intro gb w hgb hs; replace hs : St w0 [] ([(gb, row 54 (Tok.cells (opn j)))] ++ C ++ []) w := (by rw [List.append_nil]; exact hs))
        | ((with_reducible refine gd_ap ?_); (refine wl_of rfl (St.app [_] [] hs el44 hsl.out (m := 1) (by first | exact ev rfl | rfl) (by first | exact ev rfl | rfl) (news := Tok.cells (opn j)) rfl (cells_at (hs.at 0 rfl)) (tok_one _) (by unfold maxLen; omega) (by omega) ?_)); intro lv' C' w hs hsl'; replace hsl' := hid hsl'))
      go_roundg (K - (j + 1))
      case measure => omega
      case rel =>
        refine ⟨j + 1, C', by go_num, hlt, rfl, hid ?_, ?_⟩
        · rw [hsn.out]; exact hsl'.out
        · rw [List.append_nil] at hs; exact St.drop (A := [_]) hs
    · obtain rfl : K = j := by omega
      have qj : decide (K < K) = false := by simp
      go_wp2_with fail
      have hsl2 : Hid (Sl 54 3 u4 (K + 0) (tcells (opns K ++ clss K 0)) C) := by
        have : opns K ++ clss K 0 = opns K := by simp [clss]
        rw [this]; exact hsl
      clear hsl
      go_loopg [4, 6] K (fun g lv iv wr => ∃ (j : Nat) (C : List (Nat × Obj)), iv = .int .i64 j ∧ j ≤ K ∧ g = K - j ∧ Hid (Sl 54 3 lv (K + j) (tcells (opns K ++ clss K j)) C) ∧ St w0 [] C wr)
      case atStart => exact ⟨0, _, rfl, Nat.zero_le _, rfl, hsl2, hs⟩
      case round =>
        clear hs hsl2 qj
        obtain ⟨j, C, rfl, hj, rfl, hsl, hs⟩ := hrel
        by_cases hlt : j < K
        · have qj : decide (j < K) = true := by simpa using hlt
          have hsn := tcells_snoc (opns K ++ clss K j) (cls K j)
          rw [List.append_assoc, ← clss_succ] at hsn
          replace hsn := hid hsn
          have hwk : wrap64 ((K : Int) + (j : Int)) = ((K + j : Nat) : Int) := by unfold wrap64; omega
          go_wp2_with (first
            | ((with_reducible refine gd_bd ?_); refine wl_of rfl (wp_of_run (ex_build (v := .agg (Tok.cells (cls K j)).toArray) rfl (run_build54 _ 2 ((K + j : Nat) : Int) ⟨#[41]⟩)) ?_))
            | ((with_reducible refine gd_bs ?_); refine wl_of rfl (hs.bs1 el44 (by decide) rfl (vs := Tok.cells (cls K j)) rfl rfl ?_); intro gb w hgb hs; replace hs : St w0 [] ([(gb, row 54 (Tok.cells (cls K j)))] ++ C ++ []) w := (by rw [List.append_nil]; exact hs))
            | ((with_reducible refine gd_ap ?_); (refine wl_of rfl (St.app [_] [] hs el44 hsl.out (m := 1) (by first | exact ev rfl | rfl) (by first | exact ev rfl | rfl) (news := Tok.cells (cls K j)) rfl (cells_at (hs.at 0 rfl)) (tok_one _) (by unfold maxLen; omega) (by omega) ?_)); intro lv' C' w hs hsl'; replace hsl' := hid hsl'))
          go_roundg (K - (j + 1))
          case measure => omega
          case rel =>
            refine ⟨j + 1, C', by go_num, hlt, rfl, hid ?_, ?_⟩
            · rw [hsn.out]; exact hsl'.out
            · rw [List.append_nil] at hs; exact St.drop (A := [_]) hs
        · obtain rfl : K = j := by omega
          have qj : decide (K < K) = false := by simp
          obtain ⟨lA, lc, rfl⟩ : ∃ A c, u4 = .slice A (K + K) c := by
            rcases hsl.out.2 with ⟨rfl, h0, _⟩ | ⟨g, cap, junk, rfl, _⟩
            · exact ⟨none, 0, by rw [h0]⟩
            · exact ⟨_, _, rfl⟩
          have hlen : (opns K ++ clss K K).length = K + K := by rw [List.length_append, opns_len, clss_len]
          have hT : Tks wr (.slice lA (K + K) lc) (opns K ++ clss K K) := by
            have h := hsl.out
            rw [← hlen] at h ⊢
            exact h.tks hs (fun p hp => hp)
          have hl2 : (opns K ++ clss K K).length ≤ 8192 := by omega
          replace hT := hid hT
          replace hl2 := hid hl2
          clear hsl hlen
          by_cases hk : 1000 < K
          · have hbad := deep_bad hk
            have qk : decide ((1000 : Int) < (K : Int)) = true := by simp; omega
            replace hbad := hid hbad
            go_upto_region 15 with (first
              | (go_at_call 32; refine (sread_bad hbad.out hT.out hl2.out).mono ?_; rintro e w ⟨rfl, hs'⟩; replace hs := hs.plus hs'; clear hs')
              | ((with_reducible refine gd_al ?_); refine wl_of rfl (hs.al (zc_of rfl) ?_); intro b8 w hb8 hs)
              | ((with_reducible refine gd_st (ty := 46) ?_); refine wl_of rfl (hs.sta 0 rfl rfl ag46 (vs := [.int .i64 18, .int .i64 1000]) (by first | exact ev rfl | rfl) rfl (by simp [Value.oneCell']) (Nat.le_of_eq rfl) (splice_all rfl) ?_); intro w hs; rw [put_none]; simp only [List.set_cons_zero] at hs))
            have f1 : w.cell? ⟨b8, 0, none⟩ = some (.int .i64 18) := row_cell (hs.at 0 rfl) 0
            have f2 : w.cell? ⟨b8, 1, none⟩ = some (.int .i64 1000) := row_cell (hs.at 0 rfl) 1
            replace hs := hid hs
            go_wp2_with fail
            go_ret
            exact ⟨rfl, hs.out.void.below⟩
          · have hok : readS (opns K ++ clss K K) = .ok [tower (K - 1) []] := by
              have := deep_ok (k := K - 1) (by omega)
              rw [show K - 1 + 1 = K by omega] at this
              exact this
            have hlev : Lev K [tower (K - 1) []] := by
              have := deep_lev (K - 1)
              rw [show K - 1 + 1 = K by omega] at this
              exact this
            obtain ⟨ks, htop⟩ := tower_top (K - 1) []
            rw [htop] at hok hlev
            have qk : decide ((1000 : Int) < (K : Int)) = false := by simp; omega
            replace hok := hid hok
            replace hlev := hid hlev
            clear htop
            go_upto_region 16 with (first
              | (go_at_call 32; refine (sread_ok hok.out hT.out hl2.out).mono ?_; rintro e w ⟨xv, F, rfl, hxr, hs'⟩; replace hxr := hid hxr; replace hs := hs.plus hs'; clear hs')
              | ((with_reducible refine gd_al ?_); refine wl_of rfl (hs.al (zc_of rfl) ?_); intro b8 w hb8 hs)
              | ((with_reducible refine gd_st (ty := 46) ?_); refine wl_of rfl (hs.sta 0 rfl rfl ag46 (vs := [.int .i64 0, .int .i64 0]) (by first | exact ev rfl | rfl) rfl (by simp [Value.oneCell']) (Nat.le_of_eq rfl) (splice_all rfl) ?_); intro w hs; rw [put_none]; simp only [List.set_cons_zero] at hs))
            have hKn : Kn w F := hs.kn (fun p hp => by simp [hp])
            obtain ⟨g, c, A, kc, rfl, hcell, hrep⟩ := hxr.out.single hKn
            have hdeep := deep_any hrep hKn hlev.out (by omega)
            have f1 : w.cell? ⟨g, 0, none⟩ = some (.bool true) := hcell 0 _ rfl
            have f2 : w.cell? ⟨g, 1, none⟩ = some (.int .i64 1) := hcell 1 _ rfl
            have f3 : w.cell? ⟨g, 2, none⟩ = some (.string ⟨#[40]⟩) := hcell 2 _ rfl
            have f4 : w.cell? ⟨g, 3, none⟩ = some (.int .i64 0) := hcell 3 _ rfl
            have f5 : w.cell? ⟨g, 4, none⟩ = some (.slice A ks.length kc) := hcell 4 _ rfl
            have f6 : w.cell? ⟨b8, 0, none⟩ = some (.int .i64 0) := row_cell (hs.at 0 rfl) 0
            have f7 : w.cell? ⟨b8, 1, none⟩ = some (.int .i64 0) := row_cell (hs.at 0 rfl) 1
            clear hcell hrep hKn
            replace hdeep := hid hdeep
            replace hs := hid hs
            go_wp2_with (go_at_call 35; refine (hdeep.out).mono ?_; rintro e w ⟨rfl, hs'⟩; replace hs := hs.out.plus hs'; clear hs'; replace hs := hid hs)
            go_ret
            exact ⟨rfl, hs.out.void.below⟩
end Go.Proofs.Ytclingkhdmhhoaa

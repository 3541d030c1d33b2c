/- Chapter 8: the walk of Deep: level by level. No condition. -/
import Derived.Test.YtclingkhdmhhoaaSxE
import Derived.Deep.DeepCutAuto
namespace Go.Proofs.Ytclingkhdmhhoaa
open Go.RowKit
set_option linter.unusedSimpArgs false
set_option linter.unusedVariables false

theorem Reps.one {F : List (Nat × Obj)} {css : List (List Value)} {ks : List Tr} (h : Reps F css ks) : ∀ u ∈ css.flatten, u.oneCell' = true := by
  intro u hu
  obtain ⟨cs, hcs, huc⟩ := List.mem_flatten.1 hu
  obtain ⟨i, hi⟩ := List.getElem?_of_mem hcs
  have hl := h.len
  have hlt : i < css.length := (List.getElem?_eq_some_iff.1 hi).1
  exact (h.rep i cs ks[i] hi (List.getElem?_eq_getElem (by omega))).one u huc
/-- append of a row that is read -/
theorem run_append_row {w0 w : World} {D : List Nat} {A B C F : List (Nat × Obj)} {v u : Value} {n : Nat} {xs : List Value} {ks : List Tr} (ty : TypeId) (hs : St w0 D (A ++ C ++ B) w) (hsl : Sl 76 5 v n xs C) (hu : RowR F u ks) (hK : Kn w F) (hn : n + ks.length ≤ 32768) :
    ∃ v' C' w' dss, (Builtin.append_ #[67, 67] ty #[v, u]).run Try.prog w = .ok v' w' ∧ St w0 D (A ++ C' ++ B) w' ∧ Sl 76 5 v' (n + ks.length) (xs ++ dss.flatten) C' ∧ Reps F dss ks := by
  rcases hu with ⟨rfl, rfl⟩ | ⟨g, cap, css, junk, rfl, hm, hr⟩
  · refine ⟨v, C, w, [], ?_, hs, by simpa using hsl, Reps.nil _⟩
    obtain ⟨i, z, hi, hz, hsz, hbs, hzs⟩ := el67.inf
    rcases hsl.2 with ⟨rfl, e0, _⟩ | ⟨g, cap, junk, rfl, rfl, e1, e2, e3⟩
    · simp [Builtin.append_, run_underlying el67.und, sizeOf, typeInfo, hi, Builtin.lenOf, Builtin.firstCells, loadCells, loadCellsFrom]
    · simp [Builtin.append_, run_underlying el67.und, sizeOf, typeInfo, hi, Builtin.lenOf, Builtin.firstCells, loadCells, loadCellsFrom, e3, storeCells]
  · have hg := hK _ hm
    obtain ⟨v', C', w', h1, h2, h3⟩ := run_append_sl (P := Try.prog) (ty := ty) (c := cap) (m := ks.length) (ad := ⟨g, 0, none⟩) (news := css.flatten) el67 hs hsl hr.flat
      (fun j u hu => cells_at hg j u (by rw [List.getElem?_append_left (List.getElem?_eq_some_iff.1 hu).1]; exact hu)) hr.one (by unfold maxLen; omega) (by omega)
    exact ⟨v', C', w', css, h1, h2, h3, hr⟩
section
variable {w0 w : World} {D : List Nat} {a : Act} {K : Act → World → Prop} {Q : Exit → Act → World → Prop} {dst : Option Tmp} {t : TypeId} {pos : String} {aft : Array Edge} {g : Option (Nat × Bool)}
theorem St.appR (A B : List (Nat × Obj)) {C F : List (Nat × Obj)} (hs : St w0 D (A ++ C ++ B) w) {v u : Value} {n : Nat} {xs : List Value} {ks : List Tr} (hsl : Sl 76 5 v n xs C) (hu : RowR F u ks) (hK : Kn w F) (hn : n + ks.length ≤ 32768) {x y : Operand} (hx : a.eval x = v) (hy : a.eval y = u)
    (h : ∀ v' C' w' dss, St w0 D (A ++ C' ++ B) w' → Sl 76 5 v' (n + ks.length) (xs ++ dss.flatten) C' → Reps F dss ks → K (a.put dst v') w') :
    Oper.wp Try.prog ⟨dst, .call { callee := .builtin .append, args := #[x, y], argTypes := #[67, 67] }, t, pos, aft, g⟩ a w K Q := by
  obtain ⟨v', C', w', dss, hr, h2, h3, h4⟩ := run_append_row t hs hsl hu hK hn
  exact wp_of_run (ex_app hx hy hr) (h _ _ _ _ h2 h3 h4)
end

def Tr.isL : Tr → Bool
  | .mk l _ _ => l
def Tr.inn : Tr → List Tr
  | .mk l _ ks => if l = true then ks else []
def kidsOf (L : List Tr) : List Tr := L.flatMap Tr.inn
def anyL (L : List Tr) : Bool := L.any Tr.isL
/-- so many levels -/
def Lev : Nat → List Tr → Prop
  | 0, L => anyL L = false ∧ L.length ≤ 8192
  | n + 1, L => anyL L = true ∧ L.length ≤ 8192 ∧ Lev n (kidsOf L)
theorem Lev.len : ∀ {n : Nat} {L : List Tr}, Lev n L → L.length ≤ 8192
  | 0, _, h => h.2
  | _ + 1, _, h => h.2.1
theorem kids_none : ∀ {L : List Tr}, anyL L = false → kidsOf L = []
  | [], _ => rfl
  | .mk l t ks :: L, h => by
    simp only [anyL, List.any_cons, Bool.or_eq_false_iff, Tr.isL] at h
    have := kids_none (L := L) h.2
    simp only [kidsOf, List.flatMap_cons] at this ⊢
    rw [this]
    simp [Tr.inn, h.1]
theorem Lev.kids : ∀ {n : Nat} {L : List Tr}, Lev n L → (kidsOf L).length ≤ 8192
  | 0, L, h => by rw [kids_none h.1]; simp
  | _ + 1, _, h => h.2.2.len
theorem kids_snoc (L : List Tr) (k : Tr) : kidsOf (L ++ [k]) = kidsOf L ++ k.inn := by simp [kidsOf]
theorem any_snoc (L : List Tr) (k : Tr) : anyL (L ++ [k]) = (anyL L || k.isL) := by simp [anyL]
theorem kids_part (L : List Tr) (j : Nat) : (kidsOf (L.take j)).length ≤ (kidsOf L).length := by
  have e : kidsOf L = kidsOf (L.take j) ++ kidsOf (L.drop j) := by
    unfold kidsOf
    rw [← List.flatMap_append, List.take_append_drop]
  rw [e, List.length_append]; omega

set_option maxHeartbeats 2000000 in
set_option maxRecDepth 4000 in
theorem deep_any {n : Nat} {F : List (Nat × Obj)} {k : Tr} {cs : List Value} {w0 : World} (hc : Rep F cs k) (hF : Kn w0 F) (hL : Lev n [k]) (hn : n ≤ 8192) :
    Calls Try.prog 35 #[.agg cs.toArray] w0 fun e w' => e = .returned (.int .i64 n) ∧ St w0 [] [] w' := by
  have hs := St.nothing w0
  have h5 := hc.five
  have h1 := hc.one
  replace hc := hid hc
  replace hF := hid hF
  replace hL := hid hL
  go_enter Try.func35, Try.ntmps35
  go_wp2_with (first
    | ((with_reducible refine gd_bx ?_); refine wl_of rfl (hs.bxa (l := cs) (by first | exact ev rfl | rfl) ?_); intro b1 w hb1 hs)
    | ((with_reducible refine gd_ld (ty := 76) ?_); refine wl_of rfl (hs.lda 0 rfl (by first | exact ev rfl | rfl) ag76 (vs := cs) (by rw [h5]; exact Nat.le_refl _) (by unfold cut; rw [List.drop_zero, List.take_of_length_le (by omega)]) ?_))
    | ((with_reducible refine gd_bs ?_); refine wl_of rfl (hs.bs1 el67 (by decide) rfl (vs := cs) rfl h5 ?_); intro g0 w hg0 hs))
  go_loopg [2, 3] n (fun g nv lv wr => ∃ (m : Nat) (L : List Tr) (css : List (List Value)) (C : List (Nat × Obj)) (lA : Option Addr) (lc : Nat), nv = .int .i64 m ∧ lv = .slice lA L.length lc ∧ m ≤ n ∧ g = n - m ∧ Hid (Lev (n - m) L) ∧ Hid (Sl 76 5 (.slice lA L.length lc) L.length css.flatten C) ∧ Hid (Reps F css L) ∧ St w0 [] C wr)
  case atStart =>
    refine ⟨0, [k], [cs], [(g0, row 76 cs)], _, _, rfl, rfl, Nat.zero_le _, rfl, hL, hid ?_, hid ?_, St.keep (A := [_]) hs⟩
    · have := Sl.made (e := 76) (size := 5) (g := g0) (n := 1) (cap := 1) (xs := [cs].flatten) (junk := []) (by simp [h5]) (by simp [h5]) (by decide) (Nat.le_refl _)
      simpa using this
    · exact (Reps.nil F).snoc hc.out
  case round =>
    clear hs
    obtain ⟨m, L, css, C, lA, lc, rfl, rfl, hm, rfl, hLm, hsl, hrp, hs⟩ := hrel
    have hLl := hLm.out.len
    have hLk := hLm.out.kids
    go_wp2_with fail
    go_loopg [4, 5, 12] L.length (fun g xv bv iv wr => ∃ (j : Nat) (dss : List (List Value)) (E : List (Nat × Obj)), iv = .int .i64 j ∧ bv = .bool (anyL (L.take j)) ∧ j ≤ L.length ∧ g = L.length - j ∧ Hid (Sl 76 5 xv (kidsOf (L.take j)).length dss.flatten E) ∧ Hid (Reps F dss (kidsOf (L.take j))) ∧ St w0 [] (C ++ E) wr)
    case atStart =>
      refine ⟨0, [], [], rfl, rfl, Nat.zero_le _, rfl, hid (Sl.nil 76 5), hid (Reps.nil F), ?_⟩
      rw [List.append_nil]; exact hs
    case round =>
      clear hs
      obtain ⟨j, dss, E, rfl, rfl, hj, rfl, hslE, hrE, hs⟩ := hrel
      by_cases hlt : j < L.length
      · obtain ⟨g, cap, junk, he, rfl, q1, q2, q3⟩ := hsl.out.head (by omega)
        cases he
        obtain ⟨cs', y, hcj, hyj, hc5, hrc⟩ := hrp.out.get hlt
        have hlA := hrp.out.ld hcj junk
        obtain ⟨l, t, ks⟩ := y
        obtain ⟨v, rfl, hv⟩ := hrc.inv
        obtain ⟨A, c, rfl⟩ := hv.val
        have htk : L.take (j + 1) = L.take j ++ [.mk l t ks] := by rw [List.take_add_one, hyj]; rfl
        have hkn := kids_snoc (L.take j) (.mk l t ks)
        have han := any_snoc (L.take j) (.mk l t ks)
        rw [← htk] at hkn han
        have hkl := kids_part L (j + 1)
        rw [hkn, List.length_append] at hkl
        have qj : decide (j < L.length) = true := by simpa using hlt
        replace hv := hid hv
        replace hlA := hid hlA
        clear q1 q2 q3 hc5 hrc htk hcj hyj
        cases l with
        | true =>
          rw [show (Tr.mk true t ks).inn = ks from rfl] at hkn hkl
          rw [show (Tr.mk true t ks).isL = true from rfl, Bool.or_true] at han
          have hb : (kidsOf (L.take j)).length + ks.length ≤ 32768 := by omega
          replace hkn := hid hkn
          replace hb := hid hb
          clear hkl
          cases hbv : anyL (L.take j) with
          | true =>
            go_wp2_with (first
              | ((with_reducible refine gd_ia (ty := 67) ?_); refine wl_of rfl (wp_of_run (ex_indexAddr st67 (by first | exact ev rfl | rfl) (by first | exact ev rfl | rfl) hlt _) ?_))
              | ((with_reducible refine gd_ld (ty := 76) ?_); refine wl_of rfl (hs.lda 0 rfl (by first | exact ev rfl | rfl) ag76 (vs := ncell _ t (.slice A ks.length c)) hlA.out.2 hlA.out.1 ?_))
              | ((with_reducible refine gd_al (ty := 76) ?_); refine wl_of rfl (hs.al (zc_of rfl) ?_); intro b7 w hb7 hs)
              | ((with_reducible refine gd_st (ty := 76) ?_); refine wl_of rfl (hs.sta 0 rfl (by first | exact ev rfl | rfl) ag76 (vs := ncell _ t (.slice A ks.length c)) (by first | exact ev rfl | rfl) rfl (ncell_one rfl) (Nat.le_of_ble_eq_true rfl) (splice_all rfl) ?_); intro w hs; rw [put_none]; simp only [List.set_cons_zero] at hs)
              | ((with_reducible refine gd_ld (ty := 4) ?_); first | refine wl_of rfl (hs.ld 0 rfl (by first | exact ev rfl | rfl) (sc_of rfl) rfl ?_) | refine wl_on rfl (hs.ld 0 rfl (by first | exact ev rfl | rfl) (sc_of rfl) rfl ?_))
              | ((with_reducible refine gd_ap ?_); refine wl_of rfl (St.appR [_, _] [] (by simpa using hs) hslE.out hv.out (hF.out.old hs) hb.out (by first | exact ev rfl | rfl) (by first | exact ev rfl | rfl) ?_); intro v2 C2 w dss2 hs hsl2 hr2; rw [List.append_nil] at hs; replace hsl2 := hid hsl2; replace hr2 := hid hr2)
              | ((with_reducible refine gd_ld ?_); first | refine wl_of rfl (hs.ld 0 rfl rfl (sc_of rfl) rfl ?_))
              | fail)
            go_roundg (L.length - (j + 1))
            case measure => omega
            case rel =>
              refine ⟨j + 1, dss ++ dss2, C2, by go_num, by rw [han], hlt, rfl, ?_, ?_, St.drop (A := [_]) hs⟩
              · rw [hkn.out, List.length_append, List.flatten_append]; exact hsl2
              · rw [hkn.out]; exact hid (hrE.out.app hr2.out)
          | false =>
            go_wp2_with (first
              | ((with_reducible refine gd_ia (ty := 67) ?_); refine wl_of rfl (wp_of_run (ex_indexAddr st67 (by first | exact ev rfl | rfl) (by first | exact ev rfl | rfl) hlt _) ?_))
              | ((with_reducible refine gd_ld (ty := 76) ?_); refine wl_of rfl (hs.lda 0 rfl (by first | exact ev rfl | rfl) ag76 (vs := ncell _ t (.slice A ks.length c)) hlA.out.2 hlA.out.1 ?_))
              | ((with_reducible refine gd_al (ty := 76) ?_); refine wl_of rfl (hs.al (zc_of rfl) ?_); intro b7 w hb7 hs)
              | ((with_reducible refine gd_st (ty := 76) ?_); refine wl_of rfl (hs.sta 0 rfl (by first | exact ev rfl | rfl) ag76 (vs := ncell _ t (.slice A ks.length c)) (by first | exact ev rfl | rfl) rfl (ncell_one rfl) (Nat.le_of_ble_eq_true rfl) (splice_all rfl) ?_); intro w hs; rw [put_none]; simp only [List.set_cons_zero] at hs)
              | ((with_reducible refine gd_ld (ty := 4) ?_); first | refine wl_of rfl (hs.ld 0 rfl (by first | exact ev rfl | rfl) (sc_of rfl) rfl ?_) | refine wl_on rfl (hs.ld 0 rfl (by first | exact ev rfl | rfl) (sc_of rfl) rfl ?_))
              | ((with_reducible refine gd_ap ?_); refine wl_of rfl (St.appR [_, _] [] (by simpa using hs) hslE.out hv.out (hF.out.old hs) hb.out (by first | exact ev rfl | rfl) (by first | exact ev rfl | rfl) ?_); intro v2 C2 w dss2 hs hsl2 hr2; rw [List.append_nil] at hs; replace hsl2 := hid hsl2; replace hr2 := hid hr2)
              | ((with_reducible refine gd_ld ?_); first | refine wl_of rfl (hs.ld 0 rfl rfl (sc_of rfl) rfl ?_))
              | fail)
            go_roundg (L.length - (j + 1))
            case measure => omega
            case rel =>
              refine ⟨j + 1, dss ++ dss2, C2, by go_num, by rw [han], hlt, rfl, ?_, ?_, St.drop (A := [_]) hs⟩
              · rw [hkn.out, List.length_append, List.flatten_append]; exact hsl2
              · rw [hkn.out]; exact hid (hrE.out.app hr2.out)
        | false =>
          rw [show (Tr.mk false t ks).inn = [] from rfl, List.append_nil] at hkn
          rw [show (Tr.mk false t ks).isL = false from rfl, Bool.or_false] at han
          replace hkn := hid hkn
          clear hkl
          cases hbv : anyL (L.take j) with
          | true =>
            go_wp2_with (first
              | ((with_reducible refine gd_ia (ty := 67) ?_); refine wl_of rfl (wp_of_run (ex_indexAddr st67 (by first | exact ev rfl | rfl) (by first | exact ev rfl | rfl) hlt _) ?_))
              | ((with_reducible refine gd_ld (ty := 76) ?_); refine wl_of rfl (hs.lda 0 rfl (by first | exact ev rfl | rfl) ag76 (vs := ncell _ t (.slice A ks.length c)) hlA.out.2 hlA.out.1 ?_))
              | ((with_reducible refine gd_al (ty := 76) ?_); refine wl_of rfl (hs.al (zc_of rfl) ?_); intro b7 w hb7 hs)
              | ((with_reducible refine gd_st (ty := 76) ?_); refine wl_of rfl (hs.sta 0 rfl (by first | exact ev rfl | rfl) ag76 (vs := ncell _ t (.slice A ks.length c)) (by first | exact ev rfl | rfl) rfl (ncell_one rfl) (Nat.le_of_ble_eq_true rfl) (splice_all rfl) ?_); intro w hs; rw [put_none]; simp only [List.set_cons_zero] at hs)
              | ((with_reducible refine gd_ld (ty := 4) ?_); first | refine wl_of rfl (hs.ld 0 rfl (by first | exact ev rfl | rfl) (sc_of rfl) rfl ?_) | refine wl_on rfl (hs.ld 0 rfl (by first | exact ev rfl | rfl) (sc_of rfl) rfl ?_))
              | ((with_reducible refine gd_ld ?_); first | refine wl_of rfl (hs.ld 0 rfl rfl (sc_of rfl) rfl ?_)))
            go_roundg (L.length - (j + 1))
            case measure => omega
            case rel =>
              refine ⟨j + 1, dss, E, by go_num, by rw [han, hbv], hlt, rfl, ?_, ?_, St.drop (A := [_]) hs⟩
              · rw [hkn.out]; exact hslE
              · rw [hkn.out]; exact hrE
          | false =>
            go_wp2_with (first
              | ((with_reducible refine gd_ia (ty := 67) ?_); refine wl_of rfl (wp_of_run (ex_indexAddr st67 (by first | exact ev rfl | rfl) (by first | exact ev rfl | rfl) hlt _) ?_))
              | ((with_reducible refine gd_ld (ty := 76) ?_); refine wl_of rfl (hs.lda 0 rfl (by first | exact ev rfl | rfl) ag76 (vs := ncell _ t (.slice A ks.length c)) hlA.out.2 hlA.out.1 ?_))
              | ((with_reducible refine gd_al (ty := 76) ?_); refine wl_of rfl (hs.al (zc_of rfl) ?_); intro b7 w hb7 hs)
              | ((with_reducible refine gd_st (ty := 76) ?_); refine wl_of rfl (hs.sta 0 rfl (by first | exact ev rfl | rfl) ag76 (vs := ncell _ t (.slice A ks.length c)) (by first | exact ev rfl | rfl) rfl (ncell_one rfl) (Nat.le_of_ble_eq_true rfl) (splice_all rfl) ?_); intro w hs; rw [put_none]; simp only [List.set_cons_zero] at hs)
              | ((with_reducible refine gd_ld (ty := 4) ?_); first | refine wl_of rfl (hs.ld 0 rfl (by first | exact ev rfl | rfl) (sc_of rfl) rfl ?_) | refine wl_on rfl (hs.ld 0 rfl (by first | exact ev rfl | rfl) (sc_of rfl) rfl ?_))
              | ((with_reducible refine gd_ld ?_); first | refine wl_of rfl (hs.ld 0 rfl rfl (sc_of rfl) rfl ?_)))
            go_roundg (L.length - (j + 1))
            case measure => omega
            case rel =>
              refine ⟨j + 1, dss, E, by go_num, by rw [han, hbv], hlt, rfl, ?_, ?_, St.drop (A := [_]) hs⟩
              · rw [hkn.out]; exact hslE
              · rw [hkn.out]; exact hrE
      · obtain rfl : j = L.length := by omega
        rw [List.take_length] at hslE hrE ⊢
        have qj : decide (L.length < L.length) = false := by simp
        obtain ⟨xA, xc, rfl⟩ : ∃ A c, u4 = .slice A (kidsOf L).length c := by
          rcases hslE.out.2 with ⟨rfl, h0, _⟩ | ⟨g, cap, junk, rfl, _⟩
          · exact ⟨none, 0, by rw [h0]⟩
          · exact ⟨_, _, rfl⟩
        obtain ⟨r, hr⟩ : ∃ r, n - m = r := ⟨_, rfl⟩
        rw [hr] at hLm
        cases r with
        | zero =>
          have ha : anyL L = false := hLm.out.1
          obtain rfl : m = n := by omega
          rw [ha]
          clear hr
          go_wp2_with fail
          go_ret
          exact ⟨rfl, hs.void⟩
        | succ r =>
          have ha : anyL L = true := hLm.out.1
          have hL2 := hLm.out.2.2
          rw [ha]
          have hr1 : n - (m + 1) = r := by omega
          have hm1 : m + 1 ≤ n := by omega
          replace hL2 := hid hL2
          replace hr := hid hr
          go_wp2_with fail
          go_roundg (n - (m + 1))
          case measure => omega
          case rel =>
            exact ⟨m + 1, kidsOf L, dss, E, xA, xc, by go_num, rfl, hm1, rfl, by rw [hr1]; exact hL2, hslE, hrE, St.drop hs⟩
end Go.Proofs.Ytclingkhdmhhoaa

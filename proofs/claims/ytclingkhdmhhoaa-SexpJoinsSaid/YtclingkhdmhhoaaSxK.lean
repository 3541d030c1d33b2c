/- Chapter 8: the walk of the law SexpJoins. No condition. -/
import Derived.Test.YtclingkhdmhhoaaSxI
namespace Go.Proofs.Ytclingkhdmhhoaa
open Go.RowKit
set_option linter.unusedSimpArgs false
set_option linter.unusedVariables false

theorem tcells_app (a b : List Tok) : tcells (a ++ b) = tcells a ++ tcells b := by simp [tcells]
theorem tcells_one (a : List Tok) : ∀ u ∈ tcells a, u.oneCell' = true := by
  intro u hu
  obtain ⟨cs, hcs, huc⟩ := List.mem_flatten.1 hu
  obtain ⟨t, _, rfl⟩ := List.mem_map.1 hcs
  exact tok_one t u huc
theorem tcells_at {a : List Tok} {j : Nat} {u : Value} (h : (tcells a)[j]? = some u) : ∃ t, a[j / 3]? = some t ∧ t.cells[j % 3]? = some u := by
  have hj := (List.getElem?_eq_some_iff.1 h).1
  have hl : (tcells a).length = a.length * 3 := by unfold tcells; rw [flat_len (tcells_len a), List.length_map]
  have hlt : j / 3 < a.length := by omega
  have ht : a[j / 3]? = some a[j / 3] := List.getElem?_eq_getElem hlt
  refine ⟨_, ht, ?_⟩
  have := flat_get (k := 3) (ls := a.map Tok.cells) (tcells_len a) (i := j / 3) (x := a[j / 3].cells) (by simp [ht]) (o := j % 3) (Nat.mod_lt _ (by decide)) (junk := [])
  rw [List.append_nil, Nat.mul_comm, Nat.div_add_mod] at this
  rw [← this]; exact h
/-- append of tokens that are read -/
theorem run_append_tks {w0 w : World} {D : List Nat} {A B C : List (Nat × Obj)} {v u : Value} {xs ys : List Tok} (ty : TypeId) (hs : St w0 D (A ++ C ++ B) w) (hsl : Sl 54 3 v xs.length (tcells xs) C) (hT : Tks w u ys) (hn : xs.length + ys.length ≤ 32768) :
    ∃ v' C' w', (Builtin.append_ #[44, 44] ty #[v, u]).run Try.prog w = .ok v' w' ∧ St w0 D (A ++ C' ++ B) w' ∧ Sl 54 3 v' (xs ++ ys).length (tcells (xs ++ ys)) C' := by
  obtain ⟨ua, uc, rfl, hc, h4⟩ := hT
  by_cases h0 : ys = []
  · subst h0
    rw [List.append_nil]
    cases ua with
    | none =>
      refine ⟨v, C, w, ?_, hs, hsl⟩
      obtain ⟨i, z, hi, hz, hsz, hbs, hzs⟩ := el44.inf
      rcases hsl.2 with ⟨rfl, e0, _⟩ | ⟨g, cap, junk, rfl, rfl, e1, e2, e3⟩
      · simp [Builtin.append_, run_underlying el44.und, sizeOf, typeInfo, hi, Builtin.lenOf, Builtin.firstCells, loadCells, loadCellsFrom]
      · simp [Builtin.append_, run_underlying el44.und, sizeOf, typeInfo, hi, Builtin.lenOf, Builtin.firstCells, loadCells, loadCellsFrom, e3, storeCells]
    | some ad =>
      have := run_append_sl (P := Try.prog) (ty := ty) (c := uc) (m := 0) (ad := ad) (news := []) el44 hs hsl rfl (fun j u h => by simp at h) (by simp) (by unfold maxLen; omega) (by omega)
      simpa using this
  · rcases h4 with h4 | ⟨b, o, rfl, hcc⟩
    · exact absurd h4 h0
    · have hl : (tcells ys).length = ys.length * 3 := by unfold tcells; rw [flat_len (tcells_len ys), List.length_map]
      rw [List.length_append, tcells_app]
      exact run_append_sl (P := Try.prog) (ty := ty) (c := uc) (m := ys.length) (ad := ⟨b, o, none⟩) (news := tcells ys) el44 hs hsl hl (fun j u hu => by
        obtain ⟨t, ht, htu⟩ := tcells_at hu
        have := hcc (j / 3) t ht (j % 3) u htu
        rw [add_none]
        rw [show o + j / 3 * 3 + j % 3 = o + j by omega] at this
        exact this) (tcells_one ys) (by unfold maxLen; omega) (by omega)
section
variable {w0 w : World} {D : List Nat} {a : Act} {K : Act → World → Prop} {Q : Exit → Act → World → Prop} {dst : Option Tmp} {t : TypeId} {pos : String} {aft : Array Edge} {g : Option (Nat × Bool)}
theorem St.appK (A B : List (Nat × Obj)) {C : List (Nat × Obj)} (hs : St w0 D (A ++ C ++ B) w) {v u : Value} {xs ys : List Tok} (hsl : Sl 54 3 v xs.length (tcells xs) C) (hT : Tks w u ys) (hn : xs.length + ys.length ≤ 32768) {x y : Operand} (hx : a.eval x = v) (hy : a.eval y = u)
    (h : ∀ v' C' w', St w0 D (A ++ C' ++ B) w' → Sl 54 3 v' (xs ++ ys).length (tcells (xs ++ ys)) C' → K (a.put dst v') w') :
    Oper.wp Try.prog ⟨dst, .call { callee := .builtin .append, args := #[x, y], argTypes := #[44, 44] }, t, pos, aft, g⟩ a w K Q := by
  obtain ⟨v', C', w', hr, h2, h3⟩ := run_append_tks t hs hsl hT hn
  exact wp_of_run (ex_app hx hy hr) (h _ _ _ h2 h3)
end
theorem sread_u {w0 : World} {tv : Value} {ts : List Tok} (hT : Tks w0 tv ts) (hl : ts.length ≤ 8192) :
    Calls Try.prog 32 #[tv] w0 fun e w' => ∃ v k a F, e = .returned (.tuple #[v, .agg #[.int .i64 k, .int .i64 a]]) ∧ St w0 [] F w' := by
  refine (sread_any hT hl).mono fun e w' h => ?_
  cases hr : readS ts with
  | ok ks =>
    rw [hr] at h
    obtain ⟨v, F, h1, _, h3⟩ := h
    exact ⟨v, 0, 0, F, h1, h3⟩
  | error x =>
    rw [hr] at h
    obtain ⟨h1, h3⟩ := h
    exact ⟨_, x.1, x.2, [], h1, h3⟩

set_option maxHeartbeats 2000000 in
set_option maxRecDepth 4000 in
theorem sjoins_main {w0 : World} {va vb : Value} {A B : List Tok} {xs ys : List Tr} (ha : Tks w0 va A) (hb : Tks w0 vb B) (hA : A.length ≤ 1000) (hB : B.length ≤ 1000) (hx : readS A = .ok xs) (hy : readS B = .ok ys) :
    Calls Try.prog 11 #[va, vb] w0 fun e w' => e = .returned (.bool true) ∧ Below w0.heap.size w0 w' := by
  have hs := St.nothing w0
  obtain ⟨pa, ca, rfl⟩ := ha.bd
  obtain ⟨pb, cb, rfl⟩ := hb.bd
  have q1 : decide ((1000 : Int) < (A.length : Int)) = false := by simp; omega
  have q2 : decide ((1000 : Int) < (B.length : Int)) = false := by simp; omega
  have hz := sread_join hx hy
  have hzl : (A ++ B).length ≤ 8192 := by rw [List.length_append]; omega
  have hfew := readS_few hz
  have hxf := (readS_few hx).1
  have hyf := (readS_few hy).1
  have hxy : xs.length + ys.length ≤ 32768 := by omega
  have hAB : A.length + B.length ≤ 32768 := by omega
  replace ha := hid ha
  replace hb := hid hb
  replace hx := hid hx
  replace hy := hid hy
  replace hz := hid hz
  replace hfew := hid hfew
  replace hxy := hid hxy
  replace hAB := hid hAB
  replace hzl := hid hzl
  clear hxf hyf
  go_enter Try.func11, Try.ntmps11
  go_upto_region 6 with (first
    | (go_at_call 31; refine (speaks8 _).mono ?_; rintro e w ⟨rfl, hs'⟩; replace hs := hs.plus hs'; clear hs'; simp only [List.append_nil] at hs)
    | (go_at_call 32; refine (sread_ok hx.out (ha.out.via hs) (by omega)).mono ?_; rintro e w ⟨xv, FX, rfl, hxr, hs'⟩; replace hxr := hid hxr; replace hs := hs.plus hs'; clear hs'; simp only [List.nil_append] at hs)
    | ((with_reducible refine gd_al ?_); refine wl_of rfl (hs.al (zc_of rfl) ?_); intro b6 w hb6 hs)
    | ((with_reducible refine gd_st (ty := 46) ?_); refine wl_of rfl (hs.sta 0 rfl rfl ag46 (vs := [.int .i64 0, .int .i64 0]) (by first | exact ev rfl | rfl) rfl (by simp [Value.oneCell']) (Nat.le_of_eq rfl) (splice_all rfl) ?_); intro w hs; rw [put_none]; simp only [List.set_cons_zero] at hs))
  go_upto_region 7 with (first
    | (go_at_call 32; refine (sread_ok hy.out (hb.out.via hs) (by omega)).mono ?_; rintro e w ⟨yv, FY, rfl, hyr, hs'⟩; replace hyr := hid hyr; replace hs := hs.plus hs'; clear hs'; simp only [List.cons_append] at hs)
    | ((with_reducible refine gd_al ?_); refine wl_of rfl (hs.al (zc_of rfl) ?_); intro b8 w hb8 hs)
    | ((with_reducible refine gd_st (ty := 46) ?_); refine wl_of rfl (hs.sta 0 rfl rfl ag46 (vs := [.int .i64 0, .int .i64 0]) (by first | exact ev rfl | rfl) rfl (by simp [Value.oneCell']) (Nat.le_of_eq rfl) (splice_all rfl) ?_); intro w hs; rw [put_none]; simp only [List.set_cons_zero] at hs))
  have f1 : w.cell? ⟨b6, 0, none⟩ = some (.int .i64 0) := row_cell (hs.at 1 rfl) 0
  have f2 : w.cell? ⟨b8, 0, none⟩ = some (.int .i64 0) := row_cell (hs.at 0 rfl) 0
  have hs1 := hid (St.drop (A := [_, _]) hs)
  clear hs
  go_upto_region 9 with fail
  have hs := hs1.out
  clear f1 f2 hs1
  go_upto_region 10 with (first
    | ((with_reducible refine gd_bs (n := 0) ?_); refine wl_of rfl (hs.bs0 el44 ?_); intro g0 w hg0 hs hsl0; replace hsl0 := hid hsl0)
    | ((with_reducible refine gd_ap ?_); refine wl_of rfl (St.appK [] (FX ++ FY) (C := C1) (xs := A) hs hsl1.out (hb.out.via hs) hAB.out (by first | exact ev rfl | rfl) (by first | exact ev rfl | rfl) ?_); intro v2 C2 w hs hsl2; replace hsl2 := hid hsl2; replace hs : St w0 [] (C2 ++ (FX ++ FY)) w := hs)
    | ((with_reducible refine gd_ap ?_); refine wl_of rfl (St.appK [] (FX ++ FY) (C := [(g0, row 54 [])]) (xs := []) hs hsl0.out (ha.out.via hs) (by simp only [List.length_nil]; omega) (by first | exact ev rfl | rfl) (by first | exact ev rfl | rfl) ?_); intro v1 C1 w hs hsl1; rw [List.nil_append] at hsl1; replace hsl1 := hid hsl1; replace hs : St w0 [] (C1 ++ (FX ++ FY)) w := hs)
    | (go_at_call 32; refine (sread_ok hz.out (hsl2.out.tks hs (fun p hp => by simp [hp])) hzl.out).mono ?_; rintro e w ⟨zv, FZ, rfl, hzr, hs'⟩; replace hzr := hid hzr; replace hs := hs.plus hs'; clear hs')
    | ((with_reducible refine gd_al ?_); refine wl_of rfl (hs.al (zc_of rfl) ?_); intro b10 w hb10 hs)
    | ((with_reducible refine gd_st (ty := 46) ?_); refine wl_of rfl (hs.sta 0 rfl rfl ag46 (vs := [.int .i64 0, .int .i64 0]) (by first | exact ev rfl | rfl) rfl (by simp [Value.oneCell']) (Nat.le_of_eq rfl) (splice_all rfl) ?_); intro w hs; rw [put_none]; simp only [List.set_cons_zero] at hs))
  have f1 : w.cell? ⟨b10, 0, none⟩ = some (.int .i64 0) := row_cell (hs.at 0 rfl) 0
  obtain ⟨R, hR⟩ : ∃ R, R = (b10, row 46 [Value.int IntKind.i64 0, Value.int IntKind.i64 0]) :: (C2 ++ (FX ++ FY) ++ FZ) := ⟨_, rfl⟩
  have mX : ∀ p ∈ FX, p ∈ R := fun p hp => by rw [hR]; simp [hp]
  have mY : ∀ p ∈ FY, p ∈ R := fun p hp => by rw [hR]; simp [hp]
  have mZ : ∀ p ∈ FZ, p ∈ R := fun p hp => by rw [hR]; simp [hp]
  rw [← hR] at hs
  replace hR := hid hR
  replace mX := hid mX
  replace mY := hid mY
  replace mZ := hid mZ
  go_wp2_with (first
    | ((with_reducible refine gd_bs (n := 0) ?_); refine wl_on rfl (hs.bs0 el67 ?_); intro g3 w hg3 hs hsl3; replace hsl3 := hid hsl3; clear f1)
    | ((with_reducible refine gd_ap ?_); refine wl_on rfl (St.appR [] R (C := D1) (n := 0 + xs.length) hs hslD1.out hyr.out (hs.kn (fun p hp => List.mem_append_right _ (mY.out p hp))) (by have := hxy.out; omega) (by first | exact ev rfl | rfl) (by first | exact ev rfl | rfl) ?_); intro v4 D2 w dss2 hs hslD2 hr2; replace hslD2 := hid hslD2; replace hr2 := hid hr2; replace hs : St w0 [] (D2 ++ R) w := hs)
    | ((with_reducible refine gd_ap ?_); refine wl_on rfl (St.appR [] R (C := [(g3, row 76 [])]) (n := 0) hs hsl3.out hxr.out (hs.kn (fun p hp => List.mem_cons_of_mem _ (mX.out p hp))) (by have := hxy.out; omega) (by first | exact ev rfl | rfl) (by first | exact ev rfl | rfl) ?_); intro v3 D1 w dss1 hs hslD1 hr1; replace hslD1 := hid hslD1; replace hr1 := hid hr1; replace hs : St w0 [] (D1 ++ R) w := hs)
    | (go_at_call 34; refine (same8 (F := FZ) (G := D2 ++ R) hzl.out hfew.out.1 hfew.out.2 hzr.out (Sl.rowr (css := dss1 ++ dss2) (by have := hslD2.out; rw [List.nil_append, Nat.zero_add] at this; rw [List.length_append, List.flatten_append]; exact this) (Reps.app (hr1.out.mono (fun p hp => List.mem_append_right _ (mX.out p hp))) (hr2.out.mono (fun p hp => List.mem_append_right _ (mY.out p hp)))) (fun p hp => List.mem_append_left _ hp)) (hs.kn (fun p hp => List.mem_append_right _ (mZ.out p hp))) (hs.kn (fun p hp => hp))).mono ?_; rintro e w ⟨rfl, hs'⟩; replace hs := hs.plus hs'; clear hs'))
  go_ret
  exact ⟨rfl, hs.void.below⟩
set_option maxHeartbeats 1000000 in
set_option maxRecDepth 4000 in
theorem sjoins_bad1 {w0 : World} {va vb : Value} {A B : List Tok} {x : Int × Int} (ha : Tks w0 va A) (hb : Tks w0 vb B) (hA : A.length ≤ 1000) (hB : B.length ≤ 1000) (hx : readS A = .error x) :
    Calls Try.prog 11 #[va, vb] w0 fun e w' => e = .returned (.bool true) ∧ Below w0.heap.size w0 w' := by
  have hs := St.nothing w0
  obtain ⟨pa, ca, rfl⟩ := ha.bd
  obtain ⟨pb, cb, rfl⟩ := hb.bd
  have q1 : decide ((1000 : Int) < (A.length : Int)) = false := by simp; omega
  have q2 : decide ((1000 : Int) < (B.length : Int)) = false := by simp; omega
  have qx : (x.1 != (0 : Int)) = true := by have := readS_code hx; simp [this]
  replace ha := hid ha
  replace hb := hid hb
  replace hx := hid hx
  go_enter Try.func11, Try.ntmps11
  go_upto_region 6 with (first
    | (go_at_call 31; refine (speaks8 _).mono ?_; rintro e w ⟨rfl, hs'⟩; replace hs := hs.plus hs'; clear hs'; simp only [List.append_nil] at hs)
    | (go_at_call 32; refine (sread_bad hx.out (ha.out.via hs) (by omega)).mono ?_; rintro e w ⟨rfl, hs'⟩; replace hs := hs.plus hs'; clear hs'; simp only [List.nil_append] at hs)
    | ((with_reducible refine gd_al ?_); refine wl_of rfl (hs.al (zc_of rfl) ?_); intro b6 w hb6 hs)
    | ((with_reducible refine gd_st (ty := 46) ?_); refine wl_of rfl (hs.sta 0 rfl rfl ag46 (vs := [.int .i64 x.1, .int .i64 x.2]) (by first | exact ev rfl | rfl) rfl (by simp [Value.oneCell']) (Nat.le_of_eq rfl) (splice_all rfl) ?_); intro w hs; rw [put_none]; simp only [List.set_cons_zero] at hs))
  go_upto_region 7 with (first
    | (go_at_call 32; refine (sread_u (hb.out.via hs) (by omega)).mono ?_; rintro e w ⟨yv, k, a, FY, rfl, hs'⟩; replace hs := hs.plus hs'; clear hs'; simp only [List.cons_append] at hs)
    | ((with_reducible refine gd_al ?_); refine wl_of rfl (hs.al (zc_of rfl) ?_); intro b8 w hb8 hs)
    | ((with_reducible refine gd_st (ty := 46) ?_); refine wl_of rfl (hs.sta 0 rfl rfl ag46 (vs := [.int .i64 k, .int .i64 a]) (by first | exact ev rfl | rfl) rfl (by simp [Value.oneCell']) (Nat.le_of_eq rfl) (splice_all rfl) ?_); intro w hs; rw [put_none]; simp only [List.set_cons_zero] at hs))
  have f1 : w.cell? ⟨b6, 0, none⟩ = some (.int .i64 x.1) := row_cell (hs.at 1 rfl) 0
  have hs1 := hid hs.void
  clear hs
  go_wp2_with fail
  go_ret
  exact ⟨rfl, hs1.out.below⟩
set_option maxHeartbeats 1000000 in
set_option maxRecDepth 4000 in
theorem sjoins_bad2 {w0 : World} {va vb : Value} {A B : List Tok} {xs : List Tr} {x : Int × Int} (ha : Tks w0 va A) (hb : Tks w0 vb B) (hA : A.length ≤ 1000) (hB : B.length ≤ 1000) (hx : readS A = .ok xs) (hy : readS B = .error x) :
    Calls Try.prog 11 #[va, vb] w0 fun e w' => e = .returned (.bool true) ∧ Below w0.heap.size w0 w' := by
  have hs := St.nothing w0
  obtain ⟨pa, ca, rfl⟩ := ha.bd
  obtain ⟨pb, cb, rfl⟩ := hb.bd
  have q1 : decide ((1000 : Int) < (A.length : Int)) = false := by simp; omega
  have q2 : decide ((1000 : Int) < (B.length : Int)) = false := by simp; omega
  have qx : (x.1 != (0 : Int)) = true := by have := readS_code hy; simp [this]
  replace ha := hid ha
  replace hb := hid hb
  replace hx := hid hx
  replace hy := hid hy
  go_enter Try.func11, Try.ntmps11
  go_upto_region 6 with (first
    | (go_at_call 31; refine (speaks8 _).mono ?_; rintro e w ⟨rfl, hs'⟩; replace hs := hs.plus hs'; clear hs'; simp only [List.append_nil] at hs)
    | (go_at_call 32; refine (sread_ok hx.out (ha.out.via hs) (by omega)).mono ?_; rintro e w ⟨xv, FX, rfl, hxr, hs'⟩; clear hxr; replace hs := hs.plus hs'; clear hs'; simp only [List.nil_append] at hs)
    | ((with_reducible refine gd_al ?_); refine wl_of rfl (hs.al (zc_of rfl) ?_); intro b6 w hb6 hs)
    | ((with_reducible refine gd_st (ty := 46) ?_); refine wl_of rfl (hs.sta 0 rfl rfl ag46 (vs := [.int .i64 0, .int .i64 0]) (by first | exact ev rfl | rfl) rfl (by simp [Value.oneCell']) (Nat.le_of_eq rfl) (splice_all rfl) ?_); intro w hs; rw [put_none]; simp only [List.set_cons_zero] at hs))
  go_upto_region 7 with (first
    | (go_at_call 32; refine (sread_bad hy.out (hb.out.via hs) (by omega)).mono ?_; rintro e w ⟨rfl, hs'⟩; replace hs := hs.plus hs'; clear hs'; simp only [List.cons_append] at hs)
    | ((with_reducible refine gd_al ?_); refine wl_of rfl (hs.al (zc_of rfl) ?_); intro b8 w hb8 hs)
    | ((with_reducible refine gd_st (ty := 46) ?_); refine wl_of rfl (hs.sta 0 rfl rfl ag46 (vs := [.int .i64 x.1, .int .i64 x.2]) (by first | exact ev rfl | rfl) rfl (by simp [Value.oneCell']) (Nat.le_of_eq rfl) (splice_all rfl) ?_); intro w hs; rw [put_none]; simp only [List.set_cons_zero] at hs))
  have f1 : w.cell? ⟨b6, 0, none⟩ = some (.int .i64 0) := row_cell (hs.at 1 rfl) 0
  have f2 : w.cell? ⟨b8, 0, none⟩ = some (.int .i64 x.1) := row_cell (hs.at 0 rfl) 0
  have hs1 := hid hs.void
  clear hs
  go_wp2_with fail
  go_ret
  exact ⟨rfl, hs1.out.below⟩
set_option maxHeartbeats 1000000 in
set_option maxRecDepth 4000 in
theorem sjoins_long {w0 : World} {pa pb : Option Addr} {la lb ca cb : Nat} (h : 1000 < la ∨ 1000 < lb) :
    Calls Try.prog 11 #[.slice pa la ca, .slice pb lb cb] w0 fun e w' => e = .returned (.bool true) ∧ Below w0.heap.size w0 w' := by
  rcases Nat.lt_or_ge 1000 la with h1 | h1
  · have q1 : decide ((1000 : Int) < (la : Int)) = true := by simp; omega
    clear h h1
    go_enter Try.func11, Try.ntmps11
    go_wp2_with (go_at_call 31; refine (speaks8 _).mono ?_; rintro e w ⟨rfl, hs⟩)
    go_ret
    exact ⟨rfl, hs.below⟩
  · have q1 : decide ((1000 : Int) < (la : Int)) = false := by simp; omega
    have q2 : decide ((1000 : Int) < (lb : Int)) = true := by simp; omega
    clear h h1
    go_enter Try.func11, Try.ntmps11
    go_wp2_with (go_at_call 31; refine (speaks8 _).mono ?_; rintro e w ⟨rfl, hs⟩)
    go_ret
    exact ⟨rfl, hs.below⟩
theorem sjoins_any {w0 : World} {va vb : Value} {A B : List Tok} (ha : Tks w0 va A) (hb : Tks w0 vb B) :
    Calls Try.prog 11 #[va, vb] w0 fun e w' => e = .returned (.bool true) ∧ Below w0.heap.size w0 w' := by
  by_cases h : 1000 < A.length ∨ 1000 < B.length
  · obtain ⟨pa, ca, rfl⟩ := ha.bd
    obtain ⟨pb, cb, rfl⟩ := hb.bd
    exact sjoins_long h
  · cases hx : readS A with
    | error x => exact sjoins_bad1 ha hb (by omega) (by omega) hx
    | ok xs =>
      cases hy : readS B with
      | error x => exact sjoins_bad2 ha hb (by omega) (by omega) hx hy
      | ok ys => exact sjoins_main ha hb (by omega) (by omega) hx hy
end Go.Proofs.Ytclingkhdmhhoaa

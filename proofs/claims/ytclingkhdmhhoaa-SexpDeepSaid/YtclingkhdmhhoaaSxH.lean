/- Chapter 8: the example of the document. No condition. -/
import Derived.Test.YtclingkhdmhhoaaSxC
import Derived.Test.YtclingkhdmhhoaaSxG
namespace Go.Proofs.Ytclingkhdmhhoaa
open Go.RowKit
set_option linter.unusedSimpArgs false
set_option linter.unusedVariables false

set_option maxRecDepth 100000 in
theorem run_bs9 (w : World) : (Instr.buildSlice 43 9 #[(0, .int .u8 40), (1, .int .u8 32), (2, .int .u8 120), (3, .int .u8 32), (4, .int .u8 40), (5, .int .u8 32), (6, .int .u8 41), (7, .int .u8 32), (8, .int .u8 41)]).run Try.prog w = .ok (.slice (some ⟨w.heap.size, 0, none⟩) 9 9) (w.alloc (row 5 (sv [40, 32, 120, 32, 40, 32, 41, 32, 41]))) := by
  go_simp; rfl
def ex8 : List Tok := [⟨1, [40], 0⟩, ⟨3, [120], 2⟩, ⟨1, [40], 4⟩, ⟨2, [41], 6⟩, ⟨2, [41], 8⟩]
theorem ex8_read : readC [40, 32, 120, 32, 40, 32, 41, 32, 41] 0 = .ok ex8 := by rfl
def ex8T : Tr := .mk true ⟨1, [40], 0⟩ [.mk false ⟨3, [120], 2⟩ [], .mk true ⟨1, [40], 4⟩ []]
theorem ex8_tree : readS ex8 = .ok [ex8T] := by rfl
theorem ex8_lev : Lev 2 [ex8T] := ⟨rfl, by decide, rfl, by decide, rfl, by decide⟩
theorem sread_ok {w0 : World} {tv : Value} {ts : List Tok} {ks : List Tr} (hr : readS ts = .ok ks) (hT : Tks w0 tv ts) (hl : ts.length ≤ 8192) :
    Calls Try.prog 32 #[tv] w0 fun e w' => ∃ v F, e = .returned (.tuple #[v, .agg #[.int .i64 0, .int .i64 0]]) ∧ RowR F v ks ∧ St w0 [] F w' := by
  have := sread_any hT hl
  rw [hr] at this
  exact this
theorem sread_bad {w0 : World} {tv : Value} {ts : List Tok} {x : Int × Int} (hr : readS ts = .error x) (hT : Tks w0 tv ts) (hl : ts.length ≤ 8192) :
    Calls Try.prog 32 #[tv] w0 fun e w' => e = .returned (.tuple #[.slice none 0 0, .agg #[.int .i64 x.1, .int .i64 x.2]]) ∧ St w0 [] [] w' := by
  have := sread_any hT hl
  rw [hr] at this
  exact this
/-- a row of one tree: what is loaded of it -/
theorem RowR.single {F : List (Nat × Obj)} {v : Value} {l : Bool} {t : Tok} {ks : List Tr} (h : RowR F v [.mk l t ks]) {w : World} (hF : Kn w F) :
    ∃ g c A kc, v = .slice (some ⟨g, 0, none⟩) 1 c ∧ (∀ j u, (ncell l t (.slice A ks.length kc))[j]? = some u → w.cell? ⟨g, j, none⟩ = some u) ∧ Rep F (ncell l t (.slice A ks.length kc)) (.mk l t ks) := by
  obtain ⟨A0, c, rfl⟩ := h.val
  obtain ⟨g, css, junk, rfl, hm, hr⟩ := h.head (by simp)
  obtain ⟨cs, k, hcj, hkj, hc5, hrc⟩ := hr.get (j := 0) (by simp)
  obtain rfl : Tr.mk l t ks = k := by simpa using hkj
  obtain ⟨u, rfl, hu⟩ := hrc.inv
  obtain ⟨A, kc, rfl⟩ := hu.val
  refine ⟨g, c, A, kc, rfl, ?_, hrc⟩
  intro j u hj
  have hlt : j < 5 := by
    have := (List.getElem?_eq_some_iff.1 hj).1
    simpa [ncell] using this
  have := flat_get hr.five hcj (o := j) hlt (junk := junk)
  rw [Nat.zero_mul, Nat.zero_add] at this
  rw [row_cell (hF _ hm), this, hj]
theorem rd8 {w : World} {g : Nat} (hg : w.heap[g]? = some (fz (sv [40, 32, 120, 32, 40, 32, 41, 32, 41]))) :
    Calls Try.prog 23 #[.slice (some ⟨g, 0, none⟩) 9 9] w fun e w' => ∃ ov CO, e = .returned (.tuple #[ov, .agg #[.int .i64 0, .int .i64 0]]) ∧ Hid (Sl 54 3 ov 5 (tcells ex8) CO) ∧ St w [] CO w' :=
  read_ok ex8_read (by decide) (txt_fz hg (by decide) (by decide))
set_option maxHeartbeats 1000000 in
set_option maxRecDepth 4000 in
theorem speaks8 (w0 : World) : Calls Try.prog 31 #[] w0 fun e w' => e = .returned (.bool true) ∧ St w0 [] [] w' := by
  have hs := St.nothing w0
  go_enter Try.func31, Try.ntmps31
  go_upto_region 2 with (first
    | ((with_reducible refine gd_bs (n := 9) ?_); refine wl_of rfl (hs.bsn rfl run_bs9 ?_); intro g1 w hg1 hs)
    | ((with_reducible refine gd_al ?_); refine wl_of rfl (hs.al (zc_of rfl) ?_); intro fb w hfb hs)
    | ((with_reducible refine gd_st (ty := 46) ?_); refine wl_of rfl (hs.sta 0 rfl rfl ag46 (vs := [.int .i64 0, .int .i64 0]) (by first | exact ev rfl | rfl) rfl (by simp [Value.oneCell']) (Nat.le_of_eq rfl) (splice_all rfl) ?_); intro w hs; rw [put_none]; simp only [List.cons_append, List.nil_append, List.set_cons_succ, List.set_cons_zero] at hs)
    | ((with_reducible refine gd_cv ?_); refine wl_of rfl (hs.cvc 0 (vs := sv _) rfl (by first | exact ev rfl | rfl) ?_); intro w hs; simp only [List.set_cons_zero] at hs)
    | (go_at_call 23; refine (rd8 (hs.at 0 rfl)).mono ?_; rintro e w ⟨ov, CO, rfl, hsl, hs'⟩; replace hs := hs.plus hs'; clear hs'))
  have hT : Tks w ov ex8 := hsl.out.tks hs (fun p hp => by simp [hp])
  replace hT := hid hT
  clear hsl
  go_upto_region 3 with (first
    | (go_at_call 32; refine (sread_ok ex8_tree hT.out (by decide)).mono ?_; rintro e w ⟨xv, F, rfl, hxr, hs'⟩; replace hs := hs.plus hs'; clear hs')
    | ((with_reducible refine gd_al ?_); refine wl_of rfl (hs.al (zc_of rfl) ?_); intro fc w hfc hs)
    | ((with_reducible refine gd_st (ty := 46) ?_); refine wl_of rfl (hs.sta 0 rfl rfl ag46 (vs := [.int .i64 0, .int .i64 0]) (by first | exact ev rfl | rfl) rfl (by simp [Value.oneCell']) (Nat.le_of_eq rfl) (splice_all rfl) ?_); intro w hs; rw [put_none]; simp only [List.cons_append, List.nil_append, List.set_cons_succ, List.set_cons_zero] at hs))
  have hK : Kn w F := hs.kn (fun p hp => by simp [hp])
  obtain ⟨g, c, A, kc, rfl, hcell, hrep⟩ := hxr.single hK
  have hdeep := fun w' (hK : Kn w' F) => deep_any hrep hK ex8_lev (by decide)
  have f1 : w.cell? ⟨g, 0, none⟩ = some (.bool true) := hcell 0 _ rfl
  have f2 : w.cell? ⟨g, 1, none⟩ = some (.int .i64 1) := hcell 1 _ rfl
  have f3 : w.cell? ⟨g, 2, none⟩ = some (.string ⟨#[40]⟩) := hcell 2 _ rfl
  have f4 : w.cell? ⟨g, 3, none⟩ = some (.int .i64 0) := hcell 3 _ rfl
  have f5 : w.cell? ⟨g, 4, none⟩ = some (.slice A 2 kc) := hcell 4 _ rfl
  have f6 : w.cell? ⟨fc, 0, none⟩ = some (.int .i64 0) := row_cell (hs.at 0 rfl) 0
  have f7 : w.cell? ⟨fc, 1, none⟩ = some (.int .i64 0) := row_cell (hs.at 0 rfl) 1
  clear hcell hxr
  replace hrep := hid hrep
  replace hdeep := hid hdeep
  replace hK := hid hK
  replace hs := hid hs
  go_wp2_with (go_at_call 35; refine (hdeep.out _ hK.out).mono ?_; rintro e w ⟨rfl, hs'⟩; replace hs := hs.out.plus hs'; clear hs'; replace hs := hid hs)
  go_ret
  exact ⟨rfl, hs.out.void⟩
end Go.Proofs.Ytclingkhdmhhoaa

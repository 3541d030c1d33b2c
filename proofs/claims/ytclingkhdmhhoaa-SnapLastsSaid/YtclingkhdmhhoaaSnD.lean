/- The walk of snap's header. No condition. -/
import Derived.Test.YtclingkhdmhhoaaSnC
import Derived.Test.YtclingkhdmhhoaaAnyw
namespace Go.Proofs.Ytclingkhdmhhoaa
open Go.RowKit
set_option linter.unusedSimpArgs false
set_option linter.unusedVariables false

theorem run_bs4 (w : World) : (Instr.buildSlice 43 4 #[(0, .int .u8 83), (1, .int .u8 84), (2, .int .u8 89), (3, .int .u8 49)]).run Try.prog w = .ok (.slice (some ⟨w.heap.size, 0, none⟩) 4 4) (w.alloc (row 5 (sv [83, 84, 89, 49]))) := by
  go_simp; rfl
set_option maxRecDepth 4000 in
theorem magic_any (w0 : World) : Calls Try.prog 82 #[] w0 fun e w' => ∃ g, e = .returned (.slice (some ⟨g, 0, none⟩) 4 4) ∧ St w0 [] [(g, fz (sv [83, 84, 89, 49]))] w' := by
  have hs := St.nothing w0
  go_enter Try.func82, Try.ntmps82
  go_wp2_with (first
    | ((with_reducible refine gd_bs (n := 4) ?_); refine wl_of rfl (hs.bsn rfl run_bs4 ?_); intro g1 w hg1 hs)
    | ((with_reducible refine gd_cv ?_); refine wl_of rfl (hs.cvc 0 (vs := sv _) rfl (by first | exact ev rfl | rfl) ?_); intro w hs; simp only [List.set_cons_zero] at hs))
  go_ret
  exact ⟨g1, rfl, hs⟩

/-- the head of a header -/
def headF (e f : Int) (b : List UInt8) : List UInt8 := [[83, 84, 89, 49], [1], numL8 e 8, numL8 b.length 8, numL8 f 4, numL8 (crc b) 4].flatten
def headL (e f : Int) (b : List UInt8) : List UInt8 := headF e f b ++ List.replicate 27 0 ++ numL8 e 8
theorem headF_len (e f : Int) (b : List UInt8) : (headF e f b).length = 29 := by simp [headF, numL8_len]
theorem headL_len (e f : Int) (b : List UInt8) : (headL e f b).length = 64 := by simp [headL, headF_len, numL8_len]

theorem parts6 {w : World} {gs : Nat} {v1 v2 v3 v4 v5 v6 : Value} {l1 l2 l3 l4 l5 l6 : List UInt8} (hg : w.heap[gs]? = some (row 43 [v1, v2, v3, v4, v5, v6])) (h1 : Txt w [] v1 l1) (h2 : Txt w [] v2 l2) (h3 : Txt w [] v3 l3) (h4 : Txt w [] v4 l4) (h5 : Txt w [] v5 l5) (h6 : Txt w [] v6 l6) :
    Parts w gs [v1, v2, v3, v4, v5, v6] [l1, l2, l3, l4, l5, l6] := by
  refine ⟨rfl, fun i v hv => by rw [row_cell hg]; exact hv, fun i v l hv hl => ?_⟩
  match i, hv, hl with
  | 0, hv, hl => cases hv; cases hl; exact h1
  | 1, hv, hl => cases hv; cases hl; exact h2
  | 2, hv, hl => cases hv; cases hl; exact h3
  | 3, hv, hl => cases hv; cases hl; exact h4
  | 4, hv, hl => cases hv; cases hl; exact h5
  | 5, hv, hl => cases hv; cases hl; exact h6
  | i + 6, hv, hl => simp at hv
theorem run_bs6 (A1 A2 A3 A4 A5 A6 : Option Addr) (n1 c1 n2 c2 n3 c3 n4 c4 n5 c5 n6 c6 : Nat) (w : World) : (Instr.buildSlice 60 6 #[(0, .slice A1 n1 c1), (1, .slice A2 n2 c2), (2, .slice A3 n3 c3), (3, .slice A4 n4 c4), (4, .slice A5 n5 c5), (5, .slice A6 n6 c6)]).run Try.prog w = .ok (.slice (some ⟨w.heap.size, 0, none⟩) 6 6) (w.alloc (row 43 [.slice A1 n1 c1, .slice A2 n2 c2, .slice A3 n3 c3, .slice A4 n4 c4, .slice A5 n5 c5, .slice A6 n6 c6])) := by
  go_simp; rfl
theorem number_e {w0 : World} {n : Int} {k : Nat} (hn : 0 ≤ n) (hk : k ≤ 8) :
    Calls Try.prog 83 #[.int .u64 n, .int .i64 k] w0 fun e w' => ∃ A c C, e = .returned (.slice A k c) ∧ Hid (Sl 5 1 (.slice A k c) (numL8 n k).length (sv (numL8 n k)) C) ∧ St w0 [] C w' := by
  refine (number_any hn hk).mono ?_
  rintro e w' ⟨v, C, rfl, hsl, hs⟩
  have hsl2 : Sl 5 1 v (numL8 n k).length (sv (numL8 n k)) C := by rw [numL8_len]; exact hsl.out
  obtain ⟨A, c, rfl⟩ := (Mid.val (.inl hsl2) : ∃ A c, v = .slice A (numL8 n k).length c)
  rw [numL8_len] at hsl2
  rw [numL8_len]
  exact ⟨A, c, C, rfl, hid hsl2, hs⟩
theorem number8 {w0 : World} {n : Int} (hn : 0 ≤ n) :
    Calls Try.prog 83 #[.int .u64 n, .int .i64 8] w0 fun e w' => ∃ A c C, e = .returned (.slice A 8 c) ∧ Hid (Sl 5 1 (.slice A 8 c) (numL8 n 8).length (sv (numL8 n 8)) C) ∧ St w0 [] C w' := number_e (k := 8) hn (by omega)
theorem number4 {w0 : World} {n : Int} (hn : 0 ≤ n) :
    Calls Try.prog 83 #[.int .u64 n, .int .i64 4] w0 fun e w' => ∃ A c C, e = .returned (.slice A 4 c) ∧ Hid (Sl 5 1 (.slice A 4 c) (numL8 n 4).length (sv (numL8 n 4)) C) ∧ St w0 [] C w' := number_e (k := 4) hn (by omega)
theorem ex_sliceFrom {P : Program} {ρ : Operand → Value} {dst : Option Tmp} {t : TypeId} {pos : String} {aft : Array Edge} {g : Option (Nat × Bool)} {ty e sz b o n lo : Nat} {x y : Operand} {k : IntKind} (hs : Ar P ty n e sz) (hx : ρ x = .pointer (some ⟨b, o, none⟩)) (hy : ρ y = .int k lo) (hle : lo ≤ n) (hne : lo ≠ n) (w : World) :
    (execOp ρ ⟨dst, .slice ty x (some y) none none, t, pos, aft, g⟩).run P w = .ok (.value (.slice (some ⟨b, o + lo * sz, none⟩) (n - lo) (n - lo))) w := by
  simp [execOp, hx, hy, Instr.sliceAt, Instr.sureAddr, Instr.sliceBounds, Instr.sliceBound, asIntOf, run_underlying hs.und, run_sizeOf hs.siz, hle, add_none, Ne.symm hne]
theorem ex_sliceWhole {P : Program} {ρ : Operand → Value} {dst : Option Tmp} {t : TypeId} {pos : String} {aft : Array Edge} {g : Option (Nat × Bool)} {ty e sz b o n : Nat} {x : Operand} (hs : Ar P ty n e sz) (hx : ρ x = .pointer (some ⟨b, o, none⟩)) (hn : 0 < n) (w : World) :
    (execOp ρ ⟨dst, .slice ty x none none none, t, pos, aft, g⟩).run P w = .ok (.value (.slice (some ⟨b, o, none⟩) n n)) w := by
  have h0 : n ≠ 0 := by omega
  simp [execOp, hx, Instr.sliceAt, Instr.sureAddr, Instr.sliceBounds, Instr.sliceBound, asIntOf, run_underlying hs.und, run_sizeOf hs.siz, add_none, h0]
theorem txt_src {w : World} {D : List Nat} {A : Option Addr} {c : Nat} {l : List UInt8} (h : Txt w D (.slice A l.length c) l) (h0 : l ≠ []) : ∃ b o, A = some ⟨b, o, none⟩ ∧ ∀ j v, (sv l)[j]? = some v → w.cell? ((⟨b, o, none⟩ : Addr).add j) = some v := by
  obtain ⟨A', cc, e1, e2, e3, e4⟩ := h
  obtain ⟨rfl, -, rfl⟩ : A = A' ∧ l.length = l.length ∧ c = cc := by simpa using e1
  rcases e4 with e4 | ⟨b, o, rfl, hb, hd, hc⟩
  · exact absurd e4 h0
  · refine ⟨b, o, rfl, fun j v hv => ?_⟩
    simp only [sv, List.getElem?_map, Option.map_eq_some_iff] at hv
    obtain ⟨x, hx, rfl⟩ := hv
    rw [add_none]; exact hc j x hx

theorem results55 {w : World} {b : Nat} {l : List Value} (hb : w.heap[b]? = some (row 38 l)) (hl : l.length = 64) {tmps : Array Value} (t6 : tmps.getD 6 undef = .pointer (some ⟨b, 0, none⟩)) :
    (results Try.f55 tmps).run Try.prog w = .ok (.agg l.toArray) w := by
  have l3 := run_ld_row (P := Try.prog) ag38 hb (off := 0) (by omega)
  have e3 : cut l 0 64 = l := by simp [cut, ← hl]
  rw [e3] at l3
  rw [Array.getD_eq_getD_getElem?] at t6
  simp [results, Try.f55, t6, asAddr, Sem.run_bind, l3]
theorem gd_cp2 {P : Program} {ops : Array Oper} {rest : List Oper} {w : World} {a : Act} {Q : Exit → Act → World → Prop} {dst : Option Tmp} {t : TypeId} {pos : String} {aft : Array Edge} {g : Option (Nat × Bool)} {x y : Operand} {t1 t2 : TypeId} (h : wpList P ops Q (⟨dst, .call { callee := .builtin .copy, args := #[x, y], argTypes := #[t1, t2] }, t, pos, aft, g⟩ :: rest) a w) :
    wpList P ops Q (⟨dst, .call { callee := .builtin .copy, args := #[x, y], argTypes := #[t1, t2] }, t, pos, aft, g⟩ :: rest) a w := h
theorem cf83 (args : Array Value) (w : World) : (callFunc 83 args).run Try.prog w = .ok (.enter 83 args) w := by go_simp
theorem run_cv64 (n : Nat) (h : n ≤ 1073741824) (w : World) : (convert 3 121 (.int .i64 n)).run Try.prog w = .ok (.int .u64 n) w := by
  have e : IntKind.u64.wrap (n : Int) = n := by rw [IntKind.wrap_u64]; omega
  go_simp
theorem head_splice (HF E : List UInt8) (h1 : HF.length = 29) (h2 : E.length = 8) : splice (sv HF ++ List.replicate 35 (Value.int .u8 0)) (0 + 56 * 1) (sv E) = sv (HF ++ List.replicate 27 0 ++ E) := by
  have e1 : (sv HF ++ List.replicate 35 (Value.int .u8 0)).take (0 + 56 * 1) = sv HF ++ List.replicate 27 (Value.int .u8 0) := by
    rw [List.take_append, length_sv, h1, List.take_of_length_le (by rw [length_sv, h1]; decide), List.take_replicate]
    rfl
  have e2 : (sv HF ++ List.replicate 35 (Value.int .u8 0)).drop (0 + 56 * 1 + (sv E).length) = [] := List.drop_eq_nil_of_le (by simp only [List.length_append, length_sv, List.length_replicate, h1, h2]; decide)
  have e3 : sv (HF ++ List.replicate 27 0 ++ E) = sv HF ++ List.replicate 27 (Value.int .u8 0) ++ sv E := by
    simp only [sv, List.map_append, List.map_replicate]; rfl
  unfold splice
  rw [e1, e2, e3, List.append_nil]
theorem head_bd {e : Nat} (h : e ≤ 1073741824) : (0 : Int) ≤ e := by omega

set_option maxHeartbeats 4000000 in
set_option maxRecDepth 10000 in
theorem header_any {w0 : World} {v : Value} {b : List UInt8} {ep : Nat} {f : Int} (hT : Txt w0 [] v b) (hb : b.length ≤ 1048576) (he : ep ≤ 1073741824) (hf0 : 0 ≤ f) (hf1 : f < 4294967296) :
    Calls Try.prog 55 #[.int .i64 ep, .int .u32 f, v] w0 fun e w' => e = .returned (.agg (sv (headL ep f b)).toArray) ∧ St w0 [] [] w' := by
  have hs := St.nothing w0
  obtain ⟨A, c, rfl⟩ := hT.bd
  replace hT := hid hT
  have hcb := bits_u32 .xor 4294967295 (crcGo b 4294967295)
  have hcr := sum_any (w0 := w0) hT.out hb
  have hsum := hid (fun (w : World) (h : Txt w [] (.slice A b.length c) b) => sum_any h hb)
  have hcrc : bits .xor .u32 4294967295 (crcGo b 4294967295) = crc b := rfl
  rw [hcrc] at hcb
  obtain ⟨hc0, hc1⟩ := hcb
  have hF := hid (show [[83, 84, 89, 49], [1], numL8 ep 8, numL8 b.length 8, numL8 f 4, numL8 (crc b) 4].flatten = headF ep f b from rfl)
  have hFl := hid (headF_len ep f b)
  generalize hC : crc b = C at *
  replace hC := hid hC
  clear hcr hcrc
  have h01 : (0 : Int) ≤ (ep : Int) := by omega
  have h02 : (0 : Int) ≤ (b.length : Int) := by omega
  have h03 := hf0
  have h04 := hc0
  go_enter Try.func55, Try.ntmps55
  go_upto_region 2 with (first
    | ((with_reducible refine gd_al ?_); refine wl_of rfl (hs.al zc38 ?_); intro rb w hrb hs)
    | (go_at_call 82; refine (magic_any _).mono ?_; rintro e w ⟨gm, rfl, hs'⟩; replace hs := hs.plus hs'; clear hs')
    | ((with_reducible refine gd_bs (n := 1) ?_); refine wl_of rfl (hs.bsn rfl (fun w => run_bs1b w 1) ?_); intro gb w hgb hs)
    | (go_at_call 83; first
      | ((with_reducible refine (number8 (n := (ep : Int)) h01).mono ?_); rintro e w ⟨A1, c1, C1, rfl, hsl1, hs'⟩; replace hs := hs.plus hs'; clear hs')
      | ((with_reducible refine (number8 (n := (b.length : Int)) h02).mono ?_); rintro e w ⟨A2, c2, C2, rfl, hsl2, hs'⟩; replace hs := hs.plus hs'; clear hs')
      | ((with_reducible refine (number4 (n := f) h03).mono ?_); rintro e w ⟨A3, c3, C3, rfl, hsl3, hs'⟩; replace hs := hs.plus hs'; clear hs')
      | ((with_reducible refine (number4 (n := C) h04).mono ?_); rintro e w ⟨A4, c4, C4, rfl, hsl4, hs'⟩; replace hs := hs.plus hs'; clear hs'))
    | (go_at_call 49; refine (hsum.out _ (hT.out.cur hs)).mono ?_; rintro e w ⟨rfl, hs'⟩; replace hs := hs.plus hs'; clear hs'; simp only [List.append_nil] at hs)
    | ((with_reducible refine gd_bs (n := 6) ?_); refine wl_of rfl (hs.bsn rfl (run_bs6 _ _ _ _ _ _ _ _ _ _ _ _ _ _ _ _ _ _) ?_); intro gs w hgs hs))
  have hgs := hs.at 0 rfl
  have tm : Txt w [] (.slice (some ⟨gm, 0, none⟩) 4 4) [83, 84, 89, 49] := txt_fz (hs.at 3 rfl) (by decide) (by decide)
  have tb : Txt w [] (.slice (some ⟨gb, 0, none⟩) 1 1) [1] := Mid.txt (.inl (Sl.made (xs := sv [1]) (junk := []) rfl rfl (by decide) (by decide))) hs (fun q hq => by
    rw [List.mem_singleton] at hq; subst hq; exact List.mem_cons_of_mem _ (List.mem_cons_self))
  have t1 := Mid.txt (.inl hsl1.out) hs (fun q hq => by simp [hq])
  have t2 := Mid.txt (.inl hsl2.out) hs (fun q hq => by simp [hq])
  have t3 := Mid.txt (.inl hsl3.out) hs (fun q hq => by simp [hq])
  have t4 := Mid.txt (.inl hsl4.out) hs (fun q hq => by simp [hq])
  have hpt := parts6 hgs tm tb t1 t2 t3 t4
  have hcc := concat_any (cc := 6) hpt (by rw [hF.out, hFl.out]; decide) (by rw [hF.out, hFl.out]; decide) (by simp)
  rw [hF.out] at hcc
  replace hs : St w0 [] ([(gs, _), (gb, _)] ++ ([(rb, row 38 zsec)] ++ _)) w := hs
  replace hs := St.keep (A := [_]) (St.drop (A := [_, _]) hs)
  clear t1 t2 t3 t4 tm tb hpt hsl1 hsl2 hsl3 hsl4 hgs
  refine hcc.mono ?_
  rintro e w ⟨cv, CC, rfl, hslc, hs'⟩
  replace hs := hs.plus hs'
  clear hs' hcc
  obtain ⟨A5, c5, rfl⟩ := (Mid.val (.inl hslc.out) : ∃ A c, cv = .slice A (headF ep f b).length c)
  have t5 := Mid.txt (.inl hslc.out) hs (fun q hq => by simp [hq])
  generalize hHF : headF ep f b = HF at *
  replace hHF := hid hHF
  obtain ⟨b5, o5, rfl, hsrc⟩ := txt_src t5 (by intro h; have := hFl.out; rw [h] at this; cases this)
  have hsp : splice zsec 0 (sv HF) = sv HF ++ List.replicate 35 (.int .u8 0) := by
    have e1 := hFl.out
    unfold splice
    simp [length_sv, e1, zsec]
  have hmin : (sv HF).length = Nat.min HF.length 64 := by rw [length_sv, hFl.out]; rfl
  have hfit : 0 + (sv HF).length ≤ zsec.length := by rw [length_sv, hFl.out, length_zsec]; decide
  replace hsrc := hid hsrc
  replace hsp := hid hsp
  replace hmin := hid hmin
  replace hfit := hid hfit
  go_wp2_with (first
    | ((with_reducible refine gd_sl ?_); refine wl_of rfl (wp_of_run (ex_sliceWhole ar38 (by first | exact ev rfl | rfl) (by decide) _) ?_))
    | ((with_reducible refine gd_cp2 ?_); refine wl_of rfl (wp_of_run (ex_copy (cs := sv HF) st43 (by first | exact ev rfl | rfl) (by first | exact ev rfl | rfl) (hs.at 0 rfl) hmin.out hsrc.out hfit.out (one_sv _) hsp.out) ?_); replace hs : St w0 [] ([(rb, row 38 (sv HF ++ List.replicate 35 (.int .u8 0)))] ++ CC) _ := hs.setAt (k := 0) rfl _))
  rw [pu rfl (by simp only [List.set_cons_succ, List.set_cons_zero]; rfl)]
  replace hs := hs.drew
  have hcv := run_cv64 ep he
  refine any_start follows ?_
  refine any_take 0 rfl (by kernel_rfl) (by kernel_rfl) (by kernel_rfl) (fun _ _ _ h => h) rfl (ex_sliceFrom ar38 (k := .i64) (lo := 56) (ev rfl) rfl (by decide) (by decide)) (pu rfl (by simp only [List.set_cons_succ, List.set_cons_zero]; rfl)) ?_
  refine any_take 1 rfl (by kernel_rfl) (by kernel_rfl) (by kernel_rfl) (fun _ _ _ h => h) rfl (ex_move (ev rfl)) (pu rfl (by simp only [List.set_cons_succ, List.set_cons_zero]; rfl)) ?_
  refine any_take 2 rfl (by kernel_rfl) (by kernel_rfl) (by kernel_rfl) (fun _ _ _ h => h) rfl (fun w => ex_cnv (ev rfl) (hcv w)) (pu rfl (by simp only [List.set_cons_succ, List.set_cons_zero]; rfl)) ?_
  refine any_one 3 (by kernel_rfl) rfl rfl ?_
  refine wp_enter (ex_call rfl rfl (cf83 _ _)) ((number8 h01).mono ?_)
  rintro e w ⟨A6, c6, C6, rfl, hsl6, hs'⟩
  refine ⟨_, rfl, ?_⟩
  refine any_put (pu rfl (by simp only [List.set_cons_succ, List.set_cons_zero]; rfl)) ?_
  replace hs := hs.plus hs'
  clear hs'
  have t6 := Mid.txt (.inl hsl6.out) hs (fun q hq => by simp [hq])
  have hl6 := numL8_len (ep : Int) 8
  have h4 : headL ep f b = HF ++ List.replicate 27 0 ++ numL8 ep 8 := by unfold headL; rw [hHF.out]
  have t6' : Txt w [] (.slice A6 (numL8 (ep : Int) 8).length c6) (numL8 (ep : Int) 8) := by rw [hl6]; exact t6
  generalize numL8 (ep : Int) 8 = E at *
  obtain ⟨b6, o6, rfl, hsrc6⟩ := txt_src t6' (by intro h; rw [h] at hl6; cases hl6)
  refine any_one 4 (by kernel_rfl) rfl rfl ?_
  refine wp_of_run (ex_copy (cs := sv E) (sLen := 8) st43 (ev rfl) (ev rfl) (hs.at 0 rfl) (by rw [length_sv, hl6]; rfl) hsrc6 (by simp [length_sv, hl6, hFl.out]) (one_sv _) rfl) ?_
  refine any_put (pu rfl (by simp only [List.set_cons_succ, List.set_cons_zero]; rfl)) ?_
  refine any_done (by kernel_rfl) ?_
  rw [head_splice HF E hFl.out hl6, ← h4]
  have hone := one_sv (headL ep f b)
  have hlen := hid (headL_len ep f b)
  generalize hHL : headL (ep : Int) f b = HL at *
  replace hHL := hid hHL
  have hl2 : (sv HL).length = 64 := by rw [length_sv]; exact hlen.out
  replace hl2 := hid hl2
  replace hs : St w0 [] ((rb, row 38 (sv HL)) :: (CC ++ C6)) _ := hs.setAt (k := 0) rfl (row 38 (sv HL))
  clear hsrc6 hl6 h4 t6' t6 hcv
  generalize setBlk w rb (row 38 (sv HL)) = w at hs ⊢
  go_wp2_with (first
    | ((with_reducible refine gd_ld (ty := 38) ?_); refine wl_of rfl (hs.lda 0 rfl rfl ag38 (vs := sv HL) (Nat.le_of_eq (by rw [hl2.out])) (by simp [cut, ← hl2.out]) ?_))
    | ((with_reducible refine gd_st (ty := 38) ?_); refine wl_of rfl (hs.sta 0 rfl rfl ag38 (vs := sv HL) (by first | exact ev rfl | rfl) hl2.out hone (Nat.le_of_eq (by rw [hl2.out])) (splice_all rfl) ?_); intro w hs; rw [put_none]))
  refine bodyPost_ret (results55 (hs.at 0 rfl) hl2.out rfl) rfl ?_
  exact ⟨by rw [hHL.out], hs.void⟩
end Go.Proofs.Ytclingkhdmhhoaa

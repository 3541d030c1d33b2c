/- Constant texts; the example of chapter 7. No condition. -/
import Derived.Test.YtclingkhdmhhoaaLxS
import Derived.Deep.Cut
namespace Go.Proofs.Ytclingkhdmhhoaa
open Go.RowKit
set_option linter.unusedSimpArgs false
set_option linter.unusedVariables false

section
variable {P : Program} {w0 w : World} {D : List Nat} {H C : List (Nat × Obj)}
theorem St.plus {w' : World} (h : St w0 D H w) (hc : St w [] C w') : St w0 D (H ++ C) w' := by
  have := St.call (A := H) (H := []) (B := []) (by rw [List.append_nil, List.append_nil]; exact h) hc
  rw [List.append_nil] at this; exact this
theorem St.plusF {w' : World} (h : St w0 D H w) (hc : St w [] C w') : St w0 D (C ++ H) w' := (h.plus hc).perm List.perm_append_comm
end

/-- a block of bytes, whatever its mark -/
def fz (vs : List Value) : Obj := .cells vs.toArray 5 (vs.length, vs.length + 1)
theorem run_cvc {w : World} {g n c : Nat} {vs : List Value} (hg : w.heap[g]? = some (row 5 vs)) : (convert 43 43 (.slice (some ⟨g, 0, none⟩) n c)).run Try.prog w = .ok (.slice (some ⟨g, 0, none⟩) n c) (setBlk w g (fz vs)) := by
  have hsh : w.shape? g = some (5, vs.length) := by simp [World.shape?, hg, row]
  have hlt : g < w.heap.size := (Array.getElem?_eq_some_iff.1 hg).1
  have hfr : w.freeze ⟨g, vs.length, none⟩ 1 = setBlk w g (fz vs) := by
    unfold World.freeze setBlk
    rw [if_neg (by decide)]
    simp only
    congr 1
    apply Array.ext_getElem?
    intro k
    by_cases hk : k = g
    · subst hk
      rw [Array.getElem?_modify, hg]
      simp [hlt, row, fz]
    · rw [Array.getElem?_modify, if_neg (Ne.symm hk), Array.getElem?_setIfInBounds_ne (Ne.symm hk)]
  simp [convert, run_underlying Try.underlying43, run_underlying Try.underlying5, markStringish, hsh]
  exact hfr
theorem gd_cv {P : Program} {ops : Array Oper} {rest : List Oper} {w : World} {a : Act} {Q : Exit → Act → World → Prop} {dst : Option Tmp} {t s d : TypeId} {pos : String} {aft : Array Edge} {g : Option (Nat × Bool)} {x : Operand} (h : wpList P ops Q (⟨dst, .convert s d x, t, pos, aft, g⟩ :: rest) a w) :
    wpList P ops Q (⟨dst, .convert s d x, t, pos, aft, g⟩ :: rest) a w := h
set_option maxRecDepth 4000 in
theorem St.cvc {w0 w : World} {D : List Nat} {H : List (Nat × Obj)} {a : Act} {K : Act → World → Prop} {Q : Exit → Act → World → Prop} {dst : Option Tmp} {t : TypeId} {pos : String} {aft : Array Edge} {gd : Option (Nat × Bool)}
    (hs : St w0 D H w) (k : Nat) {g n c : Nat} {vs : List Value} (hk : H[k]? = some (g, row 5 vs)) {x : Operand} (hx : a.eval x = .slice (some ⟨g, 0, none⟩) n c)
    (h : ∀ w', St w0 D (H.set k (g, fz vs)) w' → K (a.put dst (.slice (some ⟨g, 0, none⟩) n c)) w') : Oper.wp Try.prog ⟨dst, .convert 43 43 x, t, pos, aft, gd⟩ a w K Q := by
  have hr := run_cvc (n := n) (c := c) (hs.at k hk)
  have h2 := h _ (hs.setAt hk (fz vs))
  refine wp_of_run (v := .slice (some ⟨g, 0, none⟩) n c) (w' := setBlk w g (fz vs)) ?_ h2
  simp [execOp, hx, hr]
theorem fz_cell {w : World} {g : Nat} {vs : List Value} (hg : w.heap[g]? = some (fz vs)) (i : Nat) : w.cell? ⟨g, i, none⟩ = vs[i]? := by simp [World.cell?, hg, fz]
set_option maxRecDepth 4000 in
theorem txt_fz {w : World} {g c : Nat} {l : List UInt8} (hg : w.heap[g]? = some (fz (sv l))) (hc : l.length ≤ c) (hm : c ≤ maxLen) : Txt w [] (.slice (some ⟨g, 0, none⟩) l.length c) l :=
  ⟨_, _, rfl, hc, hm, .inr ⟨g, 0, rfl, (Array.getElem?_eq_some_iff.1 hg).1, by simp, fun i x hx => by rw [fz_cell hg, Nat.zero_add]; simp [sv, hx]⟩⟩
set_option maxRecDepth 100000 in
theorem run_bs8 (w : World) : (Instr.buildSlice 43 8 #[(0, .int .u8 40), (1, .int .u8 120), (2, .int .u8 32), (3, .int .u8 49), (4, .int .u8 46), (5, .int .u8 53), (6, .int .u8 48), (7, .int .u8 41)]).run Try.prog w = .ok (.slice (some ⟨w.heap.size, 0, none⟩) 8 8) (w.alloc (row 5 (sv [40, 120, 32, 49, 46, 53, 48, 41]))) := by
  go_simp; rfl
theorem run_bs1b (w : World) (c : UInt8) : (Instr.buildSlice 43 1 #[(0, .int .u8 (c.toNat : Int))]).run Try.prog w = .ok (.slice (some ⟨w.heap.size, 0, none⟩) 1 1) (w.alloc (row 5 (sv [c]))) := by
  go_simp; rfl

theorem St.bsn {P : Program} {w0 w : World} {D : List Nat} {H : List (Nat × Obj)} {a : Act} {K : Act → World → Prop} {Q : Exit → Act → World → Prop} {dst : Option Tmp} {t : TypeId} {pos : String} {aft : Array Edge} {g : Option (Nat × Bool)}
    (hs : St w0 D H w) {tt n e : Nat} {ps : Array (Nat × Operand)} {qs : List (Nat × Value)} {vs : List Value} (hp : ps.toList.map (fun x => (x.1, a.eval x.2)) = qs) (hr : ∀ w, (Instr.buildSlice tt n qs.toArray).run P w = .ok (.slice (some ⟨w.heap.size, 0, none⟩) n n) (w.alloc (row e vs)))
    (h : ∀ b w', w0.heap.size ≤ b → St w0 D ((b, row e vs) :: H) w' → K (a.put dst (.slice (some ⟨b, 0, none⟩) n n)) w') : Oper.wp P ⟨dst, .buildSlice tt n ps, t, pos, aft, g⟩ a w K Q :=
  wp_of_run (ex_buildSlice hp (hr w)) (h _ _ hs.size (hs.alloc _))
theorem read_ok {w0 : World} {v : Value} {l : List UInt8} {ts : List Tok} (hr : readC l 0 = .ok ts) (hl : l.length ≤ 1048576) (hT : Txt w0 [] v l) :
    Calls Try.prog 23 #[v] w0 fun e w' => ∃ ov CO, e = .returned (.tuple #[ov, .agg #[.int .i64 0, .int .i64 0]]) ∧ Hid (Sl 54 3 ov ts.length (tcells ts) CO) ∧ St w0 [] CO w' := by
  have := read_c hT hl
  rw [hr] at this
  exact this
theorem read_bad {w0 : World} {v : Value} {l : List UInt8} {k : Nat} (hr : readC l 0 = .error k) (hl : l.length ≤ 1048576) (hT : Txt w0 [] v l) :
    Calls Try.prog 23 #[v] w0 fun e w' => e = .returned (.tuple #[.slice none 0 0, .agg #[.int .i64 10, .int .i64 k]]) ∧ St w0 [] [] w' := by
  have := read_c hT hl
  rw [hr] at this
  exact this
def exToks : List Tok := [⟨1, [40], 0⟩, ⟨3, [120], 1⟩, ⟨5, [49, 46, 53, 48], 3⟩, ⟨2, [41], 7⟩]
theorem ex_read : readC [40, 120, 32, 49, 46, 53, 48, 41] 0 = .ok exToks := by rfl
theorem ex_wrong : readC [35] 0 = .error 0 := by rfl

theorem rd1 {w : World} {g : Nat} (hg : w.heap[g]? = some (fz (sv [40, 120, 32, 49, 46, 53, 48, 41]))) :
    Calls Try.prog 23 #[.slice (some ⟨g, 0, none⟩) 8 8] w fun e w' => ∃ ov CO, e = .returned (.tuple #[ov, .agg #[.int .i64 0, .int .i64 0]]) ∧ Hid (Sl 54 3 ov 4 (tcells exToks) CO) ∧ St w [] CO w' :=
  read_ok ex_read (by decide) (txt_fz hg (by decide) (by decide))
theorem rd2 {w : World} {g : Nat} (hg : w.heap[g]? = some (fz (sv [35]))) :
    Calls Try.prog 23 #[.slice (some ⟨g, 0, none⟩) 1 1] w fun e w' => e = .returned (.tuple #[.slice none 0 0, .agg #[.int .i64 10, .int .i64 0]]) ∧ St w [] [] w' :=
  read_bad ex_wrong (by decide) (txt_fz hg (by decide) (by decide))
set_option maxHeartbeats 1000000 in
set_option maxRecDepth 4000 in
theorem speaks7 (w0 : World) : Calls Try.prog 22 #[] w0 fun e w' => e = .returned (.bool true) ∧ St w0 [] [] w' := by
  have hs := St.nothing w0
  go_enter Try.func22, Try.ntmps22
  go_upto_region 2 with (first
    | ((with_reducible refine gd_bs (n := 8) ?_); refine wl_of rfl (hs.bsn rfl run_bs8 ?_); intro g1 w hg1 hs)
    | ((with_reducible refine gd_al ?_); refine wl_of rfl (hs.al (zc_of rfl) ?_); intro fb w hfb hs)
    | ((with_reducible refine gd_st (ty := 46) ?_); refine wl_of rfl (hs.sta 0 rfl rfl ag46 (vs := [.int .i64 0, .int .i64 0]) (by first | exact ev rfl | rfl) rfl (by simp [Value.oneCell']) (Nat.le_of_eq rfl) (splice_all rfl) ?_); intro w hs; rw [put_none]; simp only [List.cons_append, List.nil_append, List.set_cons_succ, List.set_cons_zero] at hs)
    | ((with_reducible refine gd_cv ?_); refine wl_of rfl (hs.cvc 0 (vs := sv _) rfl (by first | exact ev rfl | rfl) ?_); intro w hs; simp only [List.set_cons_zero] at hs)
    | (go_at_call 23; refine (rd1 (hs.at 0 rfl)).mono ?_; rintro e w ⟨ov, CO, rfl, hsl, hs'⟩; replace hs := hs.plus hs'; clear hs'))
  go_upto_region 3 with (first
    | ((with_reducible refine gd_bs (n := 1) ?_); refine wl_of rfl (hs.bsn rfl (fun w => run_bs1b w 35) ?_); intro g2 w hg2 hs)
    | ((with_reducible refine gd_al ?_); refine wl_of rfl (hs.al (zc_of rfl) ?_); intro fc w hfc hs)
    | ((with_reducible refine gd_st (ty := 46) ?_); refine wl_of rfl (hs.sta 0 rfl rfl ag46 (vs := [.int .i64 10, .int .i64 0]) (by first | exact ev rfl | rfl) rfl (by simp [Value.oneCell']) (Nat.le_of_eq rfl) (splice_all rfl) ?_); intro w hs; rw [put_none]; simp only [List.cons_append, List.nil_append, List.set_cons_succ, List.set_cons_zero, List.append_nil] at hs)
    | ((with_reducible refine gd_cv ?_); refine wl_of rfl (hs.cvc 0 (vs := sv _) rfl (by first | exact ev rfl | rfl) ?_); intro w hs; simp only [List.set_cons_zero] at hs)
    | (go_at_call 23; refine (rd2 (hs.at 0 rfl)).mono ?_; rintro e w ⟨rfl, hs'⟩; replace hs := hs.plus hs'; clear hs'))
  obtain ⟨g, cap, junk, rfl, rfl⟩ : ∃ g cap junk, ov = .slice (some ⟨g, 0, none⟩) 4 cap ∧ CO = [(g, row 54 (tcells exToks ++ junk))] := by
    rcases hsl.out.2 with ⟨_, h0, _⟩ | ⟨g, cap, junk, h1, h2, _⟩
    · cases h0
    · exact ⟨g, cap, junk, h1, h2⟩
  have f1 : w.cell? ⟨fb, 0, none⟩ = some (.int .i64 0) := row_cell (hs.at 2 rfl) 0
  have f2 : w.cell? ⟨fb, 1, none⟩ = some (.int .i64 0) := row_cell (hs.at 2 rfl) 1
  have f3 : w.cell? ⟨fc, 0, none⟩ = some (.int .i64 10) := row_cell (hs.at 0 rfl) 0
  have f4 : w.cell? ⟨g, 6, none⟩ = some (.int .i64 5) := row_cell (hs.at 4 rfl) 6
  have f5 : w.cell? ⟨g, 7, none⟩ = some (.string ⟨#[49, 46, 53, 48]⟩) := row_cell (hs.at 4 rfl) 7
  have f6 : w.cell? ⟨g, 8, none⟩ = some (.int .i64 3) := row_cell (hs.at 4 rfl) 8
  have hsq := hid hs
  clear hs hsl
  go_wp2
  go_ret
  exact ⟨rfl, hsq.out.void⟩
end Go.Proofs.Ytclingkhdmhhoaa

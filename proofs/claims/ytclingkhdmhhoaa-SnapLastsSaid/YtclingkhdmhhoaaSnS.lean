/- SnapLasts: saves and loads on a disk that m saves stand on; comparisons and sums in a region that draws its order. No condition. -/
import Derived.Test.YtclingkhdmhhoaaSnQ
import Derived.Test.YtclingkhdmhhoaaLxV
namespace Go.Proofs.Ytclingkhdmhhoaa
open Go.RowKit
set_option linter.unusedSimpArgs false
set_option linter.unusedVariables false

theorem run_sl60 {w : World} {A : Option Addr} {n m c : Nat} (h1 : m ≤ n) (h2 : n ≤ c) : (Instr.sliceAt 60 (.slice A n c) none (some (.int .i64 m)) none).run Try.prog w = .ok (.slice A m c) w := by
  have hm : m ≤ c := by omega
  have hz : (sizeOf 43).run Try.prog w = .ok 1 w := run_sizeOf (by kernel_rfl) w
  simp [Instr.sliceAt, Instr.slice, Instr.sliceBounds, Instr.sliceBound, asIntOf, run_underlying Try.underlying60, hz, hm]
  intro hc
  exact addr0 A
theorem Inv.rm {k : Dk} {sp m : Nat} {b : List UInt8} (hI : Inv k.lasts sp m b) : roomN k.lasts.length = (sp - 1) * 64 := by unfold roomN; rw [hI.half]
theorem save_st {w : World} {d : Nat} {k : Dk} {C : List (Nat × Obj)} {v : Value} {sp m : Nat} {b b' : List UInt8} (h : Has w C) (hD : Disk d k C) (hI : Inv k.lasts sp m b) (hl : k.later = []) (hm : m ≤ 200) (hops : k.ops ≤ 1000000) (hT : Txt w (keys C) v b') (hb : b'.length ≤ (sp - 1) * 64) :
    Calls Try.prog 29 #[.pointer (some ⟨d, 0, none⟩), .int .u32 7, v] w fun e w' => e = .returned (.int .i64 0) ∧ ∃ C', Hid (Disk d (saveOf k 7 b') C') ∧ St w (keys C) C' w' :=
  save_any h hD (hI.calm hl) hT (by rw [hI.rm]; exact hb) (by decide) (by decide) (by rw [hI.told.2.2.2.1]; omega) hops
theorem load_st {w : World} {d : Nat} {k : Dk} {C : List (Nat × Obj)} {sp m : Nat} {b : List UInt8} (h : Has w C) (hD : Disk d k C) (hI : Inv k.lasts sp m b) (hl : k.later = []) (hb : b.length ≤ 1048576) :
    Calls Try.prog 30 #[.pointer (some ⟨d, 0, none⟩), .int .u32 7] w fun e w' => ∃ A c, e = .returned (.tuple #[.slice A b.length c, .int .i64 m, .int .i64 (if m = 0 then 5 else 0)]) ∧
      Hid (Txt w' (keys C) (.slice A b.length c) b) ∧ St w (keys C) C w' := by
  obtain ⟨t1, t2, t3, t4, t5, t6⟩ := hI.told
  have hlo : loadOf 7 k.lasts = (b, m, if m = 0 then 5 else 0) := by
    unfold loadOf
    rw [t1, t2]
    by_cases hm : m = 0
    · rw [if_pos (t3.2 hm), if_pos hm]
      rcases hI.cur with hc | hc
      · rw [hc.2.1, hm]
      · omega
    · rw [if_neg (fun hh => hm (t3.1 hh)), if_neg hm]
  refine (load_any h hD (hI.calm hl) (by rw [t2]; exact hb)).mono ?_
  rintro e w' ⟨A, c, rfl, hT, hs⟩
  rw [hlo] at hT ⊢
  exact ⟨A, c, rfl, hT.out (keys C) (fun b hb => by
    obtain ⟨p, hp, rfl⟩ := List.mem_map.1 hb
    exact h.lt hp), hs⟩

theorem and31s (n : Int) : bits .and .i64 n 31 = n % 32 := by
  have h31 : (BitVec.ofInt 64 31).toNat = 2 ^ 5 - 1 := by decide
  have key : (BitVec.ofInt 64 n &&& BitVec.ofInt 64 31).toNat = (n % ((2 ^ 64 : Nat) : Int)).toNat % 2 ^ 5 := by
    rw [BitVec.toNat_and, BitVec.toNat_ofInt, h31, Nat.and_two_pow_sub_one_eq_mod]
  show IntKind.i64.wrap ((BitVec.ofInt 64 n &&& BitVec.ofInt 64 31).toNat : Nat) = n % 32
  rw [key, IntKind.wrap_i64]
  omega
theorem ops_s {w : World} {d : Nat} {k : Dk} {C : List (Nat × Obj)} {o : Int} (h : Has w C) (hd : Disk d k C) (ho : k.ops = o) :
    Calls Try.prog 20 #[.pointer (some ⟨d, 0, none⟩)] w fun e w' => e = .returned (.int .i64 o) ∧ w = w' := by subst ho; exact ops_any h hd
theorem stop_s {w0 : World} {d : Nat} {k : Dk} {C : List (Nat × Obj)} {n : Int} (h : Has w0 C) (hd : Disk d k C) :
    Calls Try.prog 19 #[.pointer (some ⟨d, 0, none⟩), .int .i64 n] w0 fun e w' => e = .returned (.tuple #[]) ∧ ∃ k' C', Hid (k'.lasts = k.lasts ∧ k'.later = k.later ∧ k'.ops = k.ops) ∧ Hid (Disk d k' C') ∧ St w0 (keys C) C' w' :=
  (stop_any h hd).mono fun e w' ⟨h1, C', h2, h3⟩ => ⟨h1, k.stopAt n, C', ⟨rfl, rfl, rfl⟩, h2, h3⟩
section
variable {ρ : Operand → Value} {dst : Option Tmp} {t yt : TypeId} {pos : String} {aft : Array Edge} {g : Option (Nat × Bool)} {x y : Operand}
theorem ex_gtr3 {a b : Int} (hx : ρ x = .int .i64 a) (hy : ρ y = .int .i64 b) (w : World) : (execOp ρ ⟨dst, .binOp .gtr 3 x y yt, t, pos, aft, g⟩).run Try.prog w = .ok (.value (.bool (decide (b < a)))) w := by
  refine ex_bin hx hy ?_ ?_
  · go_simp
  · go_simp
theorem ex_eql3 {a b : Int} (hx : ρ x = .int .i64 a) (hy : ρ y = .int .i64 b) (w : World) : (execOp ρ ⟨dst, .binOp .eql 3 x y yt, t, pos, aft, g⟩).run Try.prog w = .ok (.value (.bool (a == b))) w := by
  refine ex_bin hx hy ?_ ?_
  · go_simp
  · go_simp
theorem ex_neq3 {a b : Int} (hx : ρ x = .int .i64 a) (hy : ρ y = .int .i64 b) (w : World) : (execOp ρ ⟨dst, .binOp .neq 3 x y yt, t, pos, aft, g⟩).run Try.prog w = .ok (.value (.bool (a != b))) w := by
  refine ex_bin hx hy ?_ ?_
  · go_simp
  · go_simp
theorem ex_eql26 {a b : Int} (hx : ρ x = .int .i64 a) (hy : ρ y = .int .i64 b) (w : World) : (execOp ρ ⟨dst, .binOp .eql 26 x y yt, t, pos, aft, g⟩).run Try.prog w = .ok (.value (.bool (a == b))) w := by
  refine ex_bin hx hy ?_ ?_
  · go_simp
  · go_simp
theorem ex_neqb {a b : Bool} (hx : ρ x = .bool a) (hy : ρ y = .bool b) (w : World) : (execOp ρ ⟨dst, .binOp .neq 4 x y yt, t, pos, aft, g⟩).run Try.prog w = .ok (.value (.bool (a != b))) w := by
  refine ex_bin hx hy ?_ ?_
  · go_simp
  · go_simp; cases a <;> cases b <;> rfl
theorem ex_eqs {a b : List UInt8} (hx : ρ x = str a) (hy : ρ y = str b) (w : World) : (execOp ρ ⟨dst, .binOp .eql 9 x y yt, t, pos, aft, g⟩).run Try.prog w = .ok (.value (.bool (a == b))) w := by
  refine ex_bin hx hy ?_ ?_
  · unfold str; go_simp
  · unfold str; go_simp
theorem ex_neqs {a b : List UInt8} (hx : ρ x = str a) (hy : ρ y = str b) (w : World) : (execOp ρ ⟨dst, .binOp .neq 9 x y yt, t, pos, aft, g⟩).run Try.prog w = .ok (.value (.bool (a != b))) w := by
  refine ex_bin hx hy ?_ ?_
  · unfold str; go_simp
  · unfold str; go_simp; simp [bne]
end

section
variable {ρ : Operand → Value} {dst : Option Tmp} {t yt : TypeId} {pos : String} {aft : Array Edge} {g : Option (Nat × Bool)} {x y : Operand}
theorem ex_add3 {a b : Int} {c : Nat} (hx : ρ x = .int .i64 a) (hy : ρ y = .int .i64 b) (hc : a + b = c) (hm : c ≤ 1073741824) (w : World) : (execOp ρ ⟨dst, .binOp .add 3 x y yt, t, pos, aft, g⟩).run Try.prog w = .ok (.value (.int .i64 c)) w := by
  have e : IntKind.i64.wrap (a + b) = (c : Int) := by rw [IntKind.wrap_i64]; omega
  rw [hc] at e
  refine ex_bin hx hy ?_ ?_
  · go_simp
  · go_simp
theorem ex_sub3 {a b : Int} {c : Nat} (hx : ρ x = .int .i64 a) (hy : ρ y = .int .i64 b) (hc : a - b = c) (hm : c ≤ 1073741824) (w : World) : (execOp ρ ⟨dst, .binOp .sub 3 x y yt, t, pos, aft, g⟩).run Try.prog w = .ok (.value (.int .i64 c)) w := by
  have e : IntKind.i64.wrap (a - b) = (c : Int) := by rw [IntKind.wrap_i64]; omega
  rw [hc] at e
  refine ex_bin hx hy ?_ ?_
  · go_simp
  · go_simp
theorem ex_eqlb {a b : Bool} (hx : ρ x = .bool a) (hy : ρ y = .bool b) (w : World) : (execOp ρ ⟨dst, .binOp .eql 4 x y yt, t, pos, aft, g⟩).run Try.prog w = .ok (.value (.bool (a == b))) w := by
  refine ex_bin hx hy ?_ ?_
  · go_simp
  · go_simp
end
theorem sty60 : Sty Try.prog 60 43 1 := ⟨Try.underlying60, by kernel_rfl⟩
theorem run_bs3 (w : World) : (Instr.buildSlice 43 3 #[(0, .int .u8 1), (1, .int .u8 2), (2, .int .u8 3)]).run Try.prog w = .ok (.slice (some ⟨w.heap.size, 0, none⟩) 3 3) (w.alloc (row 5 (sv [1, 2, 3]))) := by
  go_simp; rfl
theorem txt_own {w0 w : World} {D : List Nat} {C : List (Nat × Obj)} {g : Nat} {l : List UInt8} (hs : St w0 D ((g, row 5 (sv l)) :: C) w) (hl : l.length ≤ maxLen) : Txt w (keys C) (.slice (some ⟨g, 0, none⟩) l.length l.length) l := by
  have hg := hs.at 0 rfl
  have hn := hs.has.nodup
  simp only [List.map_cons, List.nodup_cons] at hn
  refine ⟨_, _, rfl, Nat.le_refl _, hl, .inr ⟨g, 0, rfl, (Array.getElem?_eq_some_iff.1 hg).1, hn.1, fun i x hx => ?_⟩⟩
  rw [row_cell hg, Nat.zero_add]
  simp [sv, hx]
theorem load_st1 {w : World} {d : Nat} {k : Dk} {C : List (Nat × Obj)} {sp m : Nat} {b : List UInt8} (h : Has w C) (hD : Disk d k C) (hI : Inv k.lasts sp m b) (hl : k.later = []) (hb : b.length ≤ 1048576) (hm : 0 < m) :
    Calls Try.prog 30 #[.pointer (some ⟨d, 0, none⟩), .int .u32 7] w fun e w' => ∃ A c, e = .returned (.tuple #[.slice A b.length c, .int .i64 m, .int .i64 0]) ∧
      Hid (Txt w' (keys C) (.slice A b.length c) b) ∧ St w (keys C) C w' := by
  have := load_st h hD hI hl hb
  rw [if_neg (by omega)] at this
  exact this
end Go.Proofs.Ytclingkhdmhhoaa

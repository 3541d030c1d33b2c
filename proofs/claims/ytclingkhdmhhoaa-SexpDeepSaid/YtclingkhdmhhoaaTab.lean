/- Plain facts of the program's table of types. No condition. -/
import Derived.Test.YtclingkhdmhhoaaLaws
namespace Go.Proofs.Ytclingkhdmhhoaa
open Go.RowKit
/-- 64 noughts -/
def zsec : List Value := List.replicate 64 (.int .u8 0)
theorem length_zsec : zsec.length = 64 := by simp [zsec]
/-- a field's place -/
def Fa (P : Program) (s k off : Nat) : Prop := ∀ (b o : Nat) (w : World), (Instr.fieldAt s (.pointer (some ⟨b, o, none⟩)) k).run P w = .ok (.pointer (some ⟨b, o + off, none⟩)) w
theorem sc1 : Sc Try.prog 1 := ⟨⟨_, Try.underlying1, rfl⟩, by kernel_rfl⟩
theorem sc3 : Sc Try.prog 3 := ⟨⟨_, Try.underlying3, rfl⟩, by kernel_rfl⟩
theorem sc4 : Sc Try.prog 4 := ⟨⟨_, Try.underlying4, rfl⟩, by kernel_rfl⟩
theorem sc5 : Sc Try.prog 5 := ⟨⟨_, Try.underlying5, rfl⟩, by kernel_rfl⟩
theorem sc9 : Sc Try.prog 9 := ⟨⟨_, Try.underlying9, rfl⟩, by kernel_rfl⟩
theorem sc22 : Sc Try.prog 22 := ⟨⟨_, Try.underlying22, rfl⟩, by kernel_rfl⟩
theorem sc23 : Sc Try.prog 23 := ⟨⟨_, Try.underlying23, rfl⟩, by kernel_rfl⟩
theorem sc25 : Sc Try.prog 25 := ⟨⟨_, Try.underlying25, rfl⟩, by kernel_rfl⟩
theorem sc26 : Sc Try.prog 26 := ⟨⟨_, Try.underlying26, rfl⟩, by kernel_rfl⟩
theorem sc33 : Sc Try.prog 33 := ⟨⟨_, Try.underlying33, rfl⟩, by kernel_rfl⟩
theorem sc35 : Sc Try.prog 35 := ⟨⟨_, Try.underlying35, rfl⟩, by kernel_rfl⟩
theorem sc40 : Sc Try.prog 40 := ⟨⟨_, Try.underlying40, rfl⟩, by kernel_rfl⟩
theorem sc43 : Sc Try.prog 43 := ⟨⟨_, Try.underlying43, rfl⟩, by kernel_rfl⟩
theorem sc44 : Sc Try.prog 44 := ⟨⟨_, Try.underlying44, rfl⟩, by kernel_rfl⟩
theorem sc52 : Sc Try.prog 52 := ⟨⟨_, Try.underlying52, rfl⟩, by kernel_rfl⟩
theorem sc58 : Sc Try.prog 58 := ⟨⟨_, Try.underlying58, rfl⟩, by kernel_rfl⟩
theorem sc60 : Sc Try.prog 60 := ⟨⟨_, Try.underlying60, rfl⟩, by kernel_rfl⟩
theorem sc63 : Sc Try.prog 63 := ⟨⟨_, Try.underlying63, rfl⟩, by kernel_rfl⟩
theorem sc67 : Sc Try.prog 67 := ⟨⟨_, Try.underlying67, rfl⟩, by kernel_rfl⟩
theorem sc80 : Sc Try.prog 80 := ⟨⟨_, Try.underlying80, rfl⟩, by kernel_rfl⟩
theorem sc88 : Sc Try.prog 88 := ⟨⟨_, Try.underlying88, rfl⟩, by kernel_rfl⟩
theorem sc101 : Sc Try.prog 101 := ⟨⟨_, Try.underlying101, rfl⟩, by kernel_rfl⟩
theorem sc109 : Sc Try.prog 109 := ⟨⟨_, Try.underlying109, rfl⟩, by kernel_rfl⟩
theorem sc112 : Sc Try.prog 112 := ⟨⟨_, Try.underlying112, rfl⟩, by kernel_rfl⟩
theorem sc121 : Sc Try.prog 121 := ⟨⟨_, Try.underlying121, rfl⟩, by kernel_rfl⟩
theorem sc122 : Sc Try.prog 122 := ⟨⟨_, Try.underlying122, rfl⟩, by kernel_rfl⟩
theorem sc128 : Sc Try.prog 128 := ⟨⟨_, Try.underlying128, rfl⟩, by kernel_rfl⟩
theorem sc132 : Sc Try.prog 132 := ⟨⟨_, Try.underlying132, rfl⟩, by kernel_rfl⟩
theorem sc136 : Sc Try.prog 136 := ⟨⟨_, Try.underlying136, rfl⟩, by kernel_rfl⟩
theorem sc137 : Sc Try.prog 137 := ⟨⟨_, Try.underlying137, rfl⟩, by kernel_rfl⟩
theorem ag29 : Ag Try.prog 29 64 := ⟨⟨_, Try.underlying29, rfl⟩, by kernel_rfl⟩
theorem ag31 : Ag Try.prog 31 68 := ⟨⟨_, Try.underlying31, rfl⟩, by kernel_rfl⟩
theorem ag38 : Ag Try.prog 38 64 := ⟨⟨_, Try.underlying38, rfl⟩, by kernel_rfl⟩
theorem ag46 : Ag Try.prog 46 2 := ⟨⟨_, Try.underlying46, rfl⟩, by kernel_rfl⟩
theorem ag54 : Ag Try.prog 54 3 := ⟨⟨_, Try.underlying54, rfl⟩, by kernel_rfl⟩
theorem ag76 : Ag Try.prog 76 5 := ⟨⟨_, Try.underlying76, rfl⟩, by kernel_rfl⟩
theorem ag82 : Ag Try.prog 82 4 := ⟨⟨_, Try.underlying82, rfl⟩, by kernel_rfl⟩
theorem ag85 : Ag Try.prog 85 65 := ⟨⟨_, Try.underlying85, rfl⟩, by kernel_rfl⟩
theorem ag91 : Ag Try.prog 91 4 := ⟨⟨_, Try.underlying91, rfl⟩, by kernel_rfl⟩
theorem ag95 : Ag Try.prog 95 2 := ⟨⟨_, Try.underlying95, rfl⟩, by kernel_rfl⟩
theorem ag113 : Ag Try.prog 113 256 := ⟨⟨_, Try.underlying113, rfl⟩, by kernel_rfl⟩
theorem ag130 : Ag Try.prog 130 2 := ⟨⟨_, Try.underlying130, rfl⟩, by kernel_rfl⟩
theorem zc3 : Zc Try.prog 3 [.int .i64 0] := by unfold Zc; kernel_rfl
theorem zc26 : Zc Try.prog 26 [.int .i64 0] := by unfold Zc; kernel_rfl
theorem zc38 : Zc Try.prog 38 zsec := by unfold Zc; kernel_rfl
theorem zc29 : Zc Try.prog 29 zsec := by unfold Zc; kernel_rfl
theorem zc31 : Zc Try.prog 31 (.int .i64 0 :: .int .i64 0 :: .int .i64 0 :: (zsec ++ [.slice none 0 0])) := by unfold Zc; kernel_rfl
theorem zc85 : Zc Try.prog 85 (.int .i64 0 :: zsec) := by unfold Zc; kernel_rfl
theorem zc46 : Zc Try.prog 46 [.int .i64 0, .int .i64 0] := by unfold Zc; kernel_rfl
theorem zc54 : Zc Try.prog 54 [.int .i64 0, .string ByteArray.empty, .int .i64 0] := by unfold Zc; kernel_rfl
theorem zc76 : Zc Try.prog 76 [.bool false, .int .i64 0, .string ByteArray.empty, .int .i64 0, .slice none 0 0] := by unfold Zc; kernel_rfl
theorem zc130 : Zc Try.prog 130 [.pointer none, .slice none 0 0] := by unfold Zc; kernel_rfl
theorem zc91 : Zc Try.prog 91 [.slice none 0 0, .int .i64 0, .slice none 0 0, .int .i64 0] := by unfold Zc; kernel_rfl
theorem zc43 : Zc Try.prog 43 [.slice none 0 0] := by unfold Zc; kernel_rfl
theorem zc5 : Zc Try.prog 5 [.int .u8 0] := by unfold Zc; kernel_rfl
theorem zc95 : Zc Try.prog 95 [.string ByteArray.empty, .string ByteArray.empty] := by unfold Zc; kernel_rfl
theorem zc113 : Zc Try.prog 113 (List.replicate 256 (.int .u32 0)) := by unfold Zc; kernel_rfl
theorem fa82_0 : Fa Try.prog 82 0 0 := by intro b o w; go_simp
theorem fa82_1 : Fa Try.prog 82 1 1 := by intro b o w; go_simp
theorem fa82_2 : Fa Try.prog 82 2 2 := by intro b o w; go_simp
theorem fa82_3 : Fa Try.prog 82 3 3 := by intro b o w; go_simp
theorem fa85_0 : Fa Try.prog 85 0 0 := by intro b o w; go_simp
theorem fa85_1 : Fa Try.prog 85 1 1 := by intro b o w; go_simp
theorem fa91_0 : Fa Try.prog 91 0 0 := by intro b o w; go_simp
theorem fa91_1 : Fa Try.prog 91 1 1 := by intro b o w; go_simp
theorem fa91_2 : Fa Try.prog 91 2 2 := by intro b o w; go_simp
theorem fa91_3 : Fa Try.prog 91 3 3 := by intro b o w; go_simp
theorem fa54_0 : Fa Try.prog 54 0 0 := by intro b o w; go_simp
theorem fa54_1 : Fa Try.prog 54 1 1 := by intro b o w; go_simp
theorem fa54_2 : Fa Try.prog 54 2 2 := by intro b o w; go_simp
theorem fa46_0 : Fa Try.prog 46 0 0 := by intro b o w; go_simp
theorem fa46_1 : Fa Try.prog 46 1 1 := by intro b o w; go_simp
theorem fa76_0 : Fa Try.prog 76 0 0 := by intro b o w; go_simp
theorem fa76_1 : Fa Try.prog 76 1 1 := by intro b o w; go_simp
theorem fa76_2 : Fa Try.prog 76 2 4 := by intro b o w; go_simp
theorem fa31_0 : Fa Try.prog 31 0 0 := by intro b o w; go_simp
theorem fa31_1 : Fa Try.prog 31 1 1 := by intro b o w; go_simp
theorem fa31_2 : Fa Try.prog 31 2 2 := by intro b o w; go_simp
theorem fa31_3 : Fa Try.prog 31 3 3 := by intro b o w; go_simp
theorem fa31_4 : Fa Try.prog 31 4 67 := by intro b o w; go_simp
theorem fa130_0 : Fa Try.prog 130 0 0 := by intro b o w; go_simp
theorem fa130_1 : Fa Try.prog 130 1 1 := by intro b o w; go_simp
def scList : List Nat := [1, 3, 4, 5, 9, 22, 23, 25, 26, 33, 35, 40, 43, 44, 52, 58, 60, 63, 67, 80, 88, 101, 109, 112, 121, 122, 128, 132, 136, 137]
theorem sc_of {t : Nat} (h : scList.contains t = true) : Sc Try.prog t := by
  have h : t ∈ scList := by simpa using h
  simp only [scList, List.mem_cons, List.not_mem_nil, or_false] at h
  rcases h with rfl | rfl | rfl | rfl | rfl | rfl | rfl | rfl | rfl | rfl | rfl | rfl | rfl | rfl | rfl | rfl | rfl | rfl | rfl | rfl | rfl | rfl | rfl | rfl | rfl | rfl | rfl | rfl | rfl | rfl
  · exact sc1
  · exact sc3
  · exact sc4
  · exact sc5
  · exact sc9
  · exact sc22
  · exact sc23
  · exact sc25
  · exact sc26
  · exact sc33
  · exact sc35
  · exact sc40
  · exact sc43
  · exact sc44
  · exact sc52
  · exact sc58
  · exact sc60
  · exact sc63
  · exact sc67
  · exact sc80
  · exact sc88
  · exact sc101
  · exact sc109
  · exact sc112
  · exact sc121
  · exact sc122
  · exact sc128
  · exact sc132
  · exact sc136
  · exact sc137
def agTab (t : Nat) : Option Nat := match t with | 29 => some 64 | 31 => some 68 | 38 => some 64 | 46 => some 2 | 54 => some 3 | 76 => some 5 | 82 => some 4 | 85 => some 65 | 91 => some 4 | 95 => some 2 | 113 => some 256 | 130 => some 2 | _ => none
theorem ag_of {t n : Nat} (h : agTab t = some n) : Ag Try.prog t n := by
  unfold agTab at h
  split at h <;> simp only [Option.some.injEq, reduceCtorEq] at h <;> subst h
  · exact ag29
  · exact ag31
  · exact ag38
  · exact ag46
  · exact ag54
  · exact ag76
  · exact ag82
  · exact ag85
  · exact ag91
  · exact ag95
  · exact ag113
  · exact ag130
def faTab (t k : Nat) : Option Nat := match t, k with | 82, 0 => some 0 | 82, 1 => some 1 | 82, 2 => some 2 | 82, 3 => some 3 | 85, 0 => some 0 | 85, 1 => some 1 | 91, 0 => some 0 | 91, 1 => some 1 | 91, 2 => some 2 | 91, 3 => some 3 | 54, 0 => some 0 | 54, 1 => some 1 | 54, 2 => some 2 | 46, 0 => some 0 | 46, 1 => some 1 | 76, 0 => some 0 | 76, 1 => some 1 | 76, 2 => some 4 | 31, 0 => some 0 | 31, 1 => some 1 | 31, 2 => some 2 | 31, 3 => some 3 | 31, 4 => some 67 | 130, 0 => some 0 | 130, 1 => some 1 | _, _ => none
theorem fa_of {t k o : Nat} (h : faTab t k = some o) : Fa Try.prog t k o := by
  unfold faTab at h
  split at h <;> simp only [Option.some.injEq, reduceCtorEq] at h <;> subst h
  · exact fa82_0
  · exact fa82_1
  · exact fa82_2
  · exact fa82_3
  · exact fa85_0
  · exact fa85_1
  · exact fa91_0
  · exact fa91_1
  · exact fa91_2
  · exact fa91_3
  · exact fa54_0
  · exact fa54_1
  · exact fa54_2
  · exact fa46_0
  · exact fa46_1
  · exact fa76_0
  · exact fa76_1
  · exact fa76_2
  · exact fa31_0
  · exact fa31_1
  · exact fa31_2
  · exact fa31_3
  · exact fa31_4
  · exact fa130_0
  · exact fa130_1
def zcTab (t : Nat) : Option (List Value) := match t with | 3 => some ([.int .i64 0]) | 26 => some ([.int .i64 0]) | 38 => some (zsec) | 29 => some (zsec) | 31 => some ((.int .i64 0 :: .int .i64 0 :: .int .i64 0 :: (zsec ++ [.slice none 0 0]))) | 85 => some ((.int .i64 0 :: zsec)) | 46 => some ([.int .i64 0, .int .i64 0]) | 54 => some ([.int .i64 0, .string ByteArray.empty, .int .i64 0]) | 76 => some ([.bool false, .int .i64 0, .string ByteArray.empty, .int .i64 0, .slice none 0 0]) | 130 => some ([.pointer none, .slice none 0 0]) | 91 => some ([.slice none 0 0, .int .i64 0, .slice none 0 0, .int .i64 0]) | 43 => some ([.slice none 0 0]) | 5 => some ([.int .u8 0]) | 95 => some ([.string ByteArray.empty, .string ByteArray.empty]) | 113 => some ((List.replicate 256 (.int .u32 0))) | _ => none
theorem zc_of {t : Nat} {l : List Value} (h : zcTab t = some l) : Zc Try.prog t l := by
  unfold zcTab at h
  split at h <;> simp only [Option.some.injEq, reduceCtorEq] at h <;> subst h
  · exact zc3
  · exact zc26
  · exact zc38
  · exact zc29
  · exact zc31
  · exact zc85
  · exact zc46
  · exact zc54
  · exact zc76
  · exact zc130
  · exact zc91
  · exact zc43
  · exact zc5
  · exact zc95
  · exact zc113

/-- an array type: how many, of what, of how many cells -/
structure Ar (P : Program) (t n e sz : Nat) : Prop where
  und : P.underlying t = some (.array n e)
  siz : (P.info? e).map (·.size) = some sz
/-- a slice type -/
structure Sty (P : Program) (t e sz : Nat) : Prop where
  und : P.underlying t = some (.slice e)
  siz : (P.info? e).map (·.size) = some sz
theorem st22 : Sty Try.prog 22 31 68 := ⟨Try.underlying22, by kernel_rfl⟩
theorem st33 : Sty Try.prog 33 38 64 := ⟨Try.underlying33, by kernel_rfl⟩
theorem st80 : Sty Try.prog 80 85 65 := ⟨Try.underlying80, by kernel_rfl⟩
theorem st43 : Sty Try.prog 43 5 1 := ⟨Try.underlying43, by kernel_rfl⟩
theorem st44 : Sty Try.prog 44 54 3 := ⟨Try.underlying44, by kernel_rfl⟩
theorem st67 : Sty Try.prog 67 76 5 := ⟨Try.underlying67, by kernel_rfl⟩
theorem st58 : Sty Try.prog 58 9 1 := ⟨Try.underlying58, by kernel_rfl⟩
theorem st60 : Sty Try.prog 60 43 1 := ⟨Try.underlying60, by kernel_rfl⟩
theorem st23 : Sty Try.prog 23 4 1 := ⟨Try.underlying23, by kernel_rfl⟩
theorem ar38 : Ar Try.prog 38 64 5 1 := ⟨Try.underlying38, by kernel_rfl⟩
theorem ar29 : Ar Try.prog 29 64 5 1 := ⟨Try.underlying29, by kernel_rfl⟩
theorem ar95 : Ar Try.prog 95 2 9 1 := ⟨Try.underlying95, by kernel_rfl⟩
theorem ar113 : Ar Try.prog 113 256 63 1 := ⟨Try.underlying113, by kernel_rfl⟩

/-! guards: which operation stands here -/
section
variable {P : Program} {ops : Array Oper} {rest : List Oper} {o : Oper} {w : World} {a : Act} {Q : Exit → Act → World → Prop} {dst : Option Tmp} {t ty : TypeId} {pos : String} {aft : Array Edge} {g : Option (Nat × Bool)} {x y : Operand}
theorem wl_of (hg : o.guard = none) (h : o.wp P a w (wpList P ops Q rest) Q) : wpList P ops Q (o :: rest) a w := wpList_plain hg fun _ hK => Oper.wp_mono hK h
theorem wl_on (hg : Region.wanted o (yielded ops a.tmps) = true) (h : o.wp P a w (wpList P ops Q rest) Q) : wpList P ops Q (o :: rest) a w :=
  wpList_step fun _ hK => by rw [if_pos hg]; exact Oper.wp_mono hK h
theorem gd_ld (h : wpList P ops Q (⟨dst, .load ty x, t, pos, aft, g⟩ :: rest) a w) : wpList P ops Q (⟨dst, .load ty x, t, pos, aft, g⟩ :: rest) a w := h
theorem gd_st (h : wpList P ops Q (⟨dst, .store ty x y, t, pos, aft, g⟩ :: rest) a w) : wpList P ops Q (⟨dst, .store ty x y, t, pos, aft, g⟩ :: rest) a w := h
theorem gd_bx (h : wpList P ops Q (⟨dst, .box ty x, t, pos, aft, g⟩ :: rest) a w) : wpList P ops Q (⟨dst, .box ty x, t, pos, aft, g⟩ :: rest) a w := h
theorem gd_al (h : wpList P ops Q (⟨dst, .alloc ty, t, pos, aft, g⟩ :: rest) a w) : wpList P ops Q (⟨dst, .alloc ty, t, pos, aft, g⟩ :: rest) a w := h
theorem gd_ia (h : wpList P ops Q (⟨dst, .indexAddr ty x y, t, pos, aft, g⟩ :: rest) a w) : wpList P ops Q (⟨dst, .indexAddr ty x y, t, pos, aft, g⟩ :: rest) a w := h
theorem gd_sl {lo hi mx : Option Operand} (h : wpList P ops Q (⟨dst, .slice ty x lo hi mx, t, pos, aft, g⟩ :: rest) a w) : wpList P ops Q (⟨dst, .slice ty x lo hi mx, t, pos, aft, g⟩ :: rest) a w := h
theorem gd_ms (h : wpList P ops Q (⟨dst, .makeSlice ty x y, t, pos, aft, g⟩ :: rest) a w) : wpList P ops Q (⟨dst, .makeSlice ty x y, t, pos, aft, g⟩ :: rest) a w := h
theorem gd_bs {n : Nat} {ps : Array (Nat × Operand)} (h : wpList P ops Q (⟨dst, .buildSlice ty n ps, t, pos, aft, g⟩ :: rest) a w) : wpList P ops Q (⟨dst, .buildSlice ty n ps, t, pos, aft, g⟩ :: rest) a w := h
theorem gd_bd {ps : Array (Nat × Operand)} (h : wpList P ops Q (⟨dst, .build ty ps, t, pos, aft, g⟩ :: rest) a w) : wpList P ops Q (⟨dst, .build ty ps, t, pos, aft, g⟩ :: rest) a w := h
theorem gd_ap {ar : Array Operand} {ts : Array TypeId} (h : wpList P ops Q (⟨dst, .call { callee := .builtin .append, args := ar, argTypes := ts }, t, pos, aft, g⟩ :: rest) a w) : wpList P ops Q (⟨dst, .call { callee := .builtin .append, args := ar, argTypes := ts }, t, pos, aft, g⟩ :: rest) a w := h
theorem gd_cp {ar : Array Operand} {ts : Array TypeId} (h : wpList P ops Q (⟨dst, .call { callee := .builtin .copy, args := ar, argTypes := ts }, t, pos, aft, g⟩ :: rest) a w) : wpList P ops Q (⟨dst, .call { callee := .builtin .copy, args := ar, argTypes := ts }, t, pos, aft, g⟩ :: rest) a w := h
end
end Go.Proofs.Ytclingkhdmhhoaa

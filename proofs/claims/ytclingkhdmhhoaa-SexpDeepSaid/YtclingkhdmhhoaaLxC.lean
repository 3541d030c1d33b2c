/- The walks of lex's reader: is, fail, put, skip. No condition. -/
import Derived.Test.YtclingkhdmhhoaaLxB
namespace Go.Proofs.Ytclingkhdmhhoaa
open Go.RowKit
set_option linter.unusedSimpArgs false
set_option linter.unusedVariables false

set_option maxHeartbeats 1000000 in
theorem is_c {w0 : World} {s at_ : Nat} {l : List UInt8} {A : Option Addr} {c : Nat} {ov bad : Value} {ch : Int} (h : w0.heap[s]? = some (row 91 [.slice A l.length c, .int .i64 at_, ov, bad]))
    (hT : Txt w0 [s] (.slice A l.length c) l) :
    Calls Try.prog 63 #[.pointer (some ⟨s, 0, none⟩), .int .u8 ch] w0 fun e w' => e = .returned (.bool (nextI l at_ ch)) ∧ ∃ n, w' = w0.drewN n := by
  have hs := St.start (w := w0) (H := [(s, row 91 [.slice A l.length c, .int .i64 at_, ov, bad])]) ⟨by simpa using h, by simp⟩
  have c0 : w0.cell? ⟨s, 0, none⟩ = some (.slice A l.length c) := row_cell h 0
  have c1 : w0.cell? ⟨s, 1, none⟩ = some (.int .i64 at_) := row_cell h 1
  obtain ⟨A', cc, e1, e2, e3, e4⟩ := hT
  obtain ⟨rfl, -, rfl⟩ : A = A' ∧ l.length = l.length ∧ c = cc := by simpa using e1
  clear e1
  by_cases hend : at_ < l.length
  · obtain ⟨x, hx⟩ : ∃ x, l[at_]? = some x := ⟨_, List.getElem?_eq_getElem hend⟩
    have hv : nextI l at_ ch = ((x.toNat : Int) == ch) := by simp [nextI, hx]
    obtain ⟨b, o, rfl, hc⟩ := e4.at hs hx
    have q1 : decide (at_ < l.length) = true := by simp; omega
    rw [hv]
    clear hs e4 h hx hv
    have hc2 : w0.cell? ⟨b, o + at_, none⟩ = some (.int .u8 x.toNat) := hc
    clear hc
    go_enter Try.func63, Try.ntmps63
    go_wp2
    go_quiet (fail)
    go_wp2
    go_ret
    exact ⟨rfl, _, rfl⟩
  · have hx : l[at_]? = none := List.getElem?_eq_none (by omega)
    have hv : nextI l at_ ch = false := by simp [nextI, hx]
    have q1 : decide (at_ < l.length) = false := by simp; omega
    rw [hv]
    clear hs e4 h hx hv
    go_enter Try.func63, Try.ntmps63
    go_wp2
    go_quiet (fail)
    go_wp2
    go_ret
    exact ⟨rfl, _, rfl⟩

set_option maxRecDepth 4000 in
theorem fail_c {w0 : World} {s : Nat} {at_ : Int} {tv ov bad : Value} (h : w0.heap[s]? = some (row 91 [tv, .int .i64 at_, ov, bad])) :
    Calls Try.prog 73 #[.pointer (some ⟨s, 0, none⟩)] w0 fun e w' => e = .returned (.tuple #[]) ∧ St w0 [s] [(s, row 91 [tv, .int .i64 at_, ov, .int .i64 at_])] w' := by
  have hs := St.start (w := w0) (H := [(s, row 91 [tv, .int .i64 at_, ov, bad])]) ⟨by simpa using h, by simp⟩
  clear h
  change St w0 [s] _ _ at hs
  go_enter Try.func73, Try.ntmps73
  go_wp2_with (first | ((with_reducible refine gd_ld ?_); first | refine wl_of rfl (hs.ld 0 rfl rfl (sc_of rfl) rfl ?_)) | ((with_reducible refine gd_st ?_); refine wl_of rfl (hs.st0 0 rfl rfl (sc_of rfl) rfl (by rfl) (Nat.le_of_ble_eq_true rfl) ?_); intro w hs))
  go_end0
  exact ⟨rfl, hs⟩

theorem run_build54 (w : World) (k a : Int) (t : ByteArray) : (Instr.build 54 #[(0, .int .i64 k), (1, .string t), (2, .int .i64 a)]).run Try.prog w = .ok (.agg #[.int .i64 k, .string t, .int .i64 a]) w := by
  go_simp

theorem tcells_snoc (ts : List Tok) (t : Tok) : tcells (ts ++ [t]) = tcells ts ++ t.cells := by simp [tcells]
theorem tok_one (t : Tok) : ∀ v ∈ t.cells, v.oneCell' = true := by
  intro v hv
  simp only [Tok.cells, List.mem_cons, List.not_mem_nil, or_false] at hv
  rcases hv with rfl | rfl | rfl <;> rfl
theorem Sl.one {e size n : Nat} {v : Value} {xs : List Value} {C : List (Nat × Obj)} (h : Sl e size v n xs C) : v.oneCell' = true := by
  rcases h.2 with ⟨rfl, _⟩ | ⟨g, cap, junk, rfl, _⟩ <;> rfl
theorem St.bs1 {P : Program} {w0 w : World} {D : List Nat} {H : List (Nat × Obj)} {a : Act} {K : Act → World → Prop} {Q : Exit → Act → World → Prop} {dst : Option Tmp} {t : TypeId} {pos : String} {aft : Array Edge} {g : Option (Nat × Bool)}
    (hs : St w0 D H w) {tt e size bytes : Nat} (he : El P tt e size bytes) (hsm : size ≤ 16777216) {x : Operand} {v : Value} {vs : List Value} (hx : a.eval x = v) (hv : v.cells.toList = vs) (hl : vs.length = size)
    (h : ∀ b w', w0.heap.size ≤ b → St w0 D ((b, row e vs) :: H) w' → K (a.put dst (.slice (some ⟨b, 0, none⟩) 1 1)) w') : Oper.wp P ⟨dst, .buildSlice tt 1 #[(0, x)], t, pos, aft, g⟩ a w K Q := by
  refine wp_of_run (v := .slice (some ⟨w.heap.size, 0, none⟩) 1 1) (w' := w.alloc (row e vs)) ?_ (h _ _ hs.size (hs.alloc _))
  exact ex_buildSlice (vs := [(0, v)]) (by simp [hx]) (run_bs1 he hsm hv hl)
set_option maxHeartbeats 1000000 in
set_option maxRecDepth 4000 in
theorem put_c {w0 : World} {s : Nat} {at_ : Value} {tv ov bad : Value} {out : List Tok} {CO : List (Nat × Obj)} {k a : Int} {t : List UInt8} (h : Has w0 ((s, row 91 [tv, at_, ov, bad]) :: CO))
    (hsl : Sl 54 3 ov out.length (tcells out) CO) (hn : out.length ≤ 1073741824) :
    Calls Try.prog 85 #[.pointer (some ⟨s, 0, none⟩), .int .i64 k, .int .i64 a, str t] w0 fun e w' => e = .returned (.tuple #[]) ∧
      ∃ ov' CO', Sl 54 3 ov' (out.length + 1) (tcells (out ++ [⟨k, t, a⟩])) CO' ∧ St w0 (keys ((s, row 91 [tv, at_, ov, bad]) :: CO)) ((s, row 91 [tv, at_, ov', bad]) :: CO') w' := by
  have hs := St.start h
  generalize keys ((s, row 91 [tv, at_, ov, bad]) :: CO) = D at hs ⊢
  clear h
  have hT1 := hid (tcells_snoc out ⟨k, t, a⟩)
  have hsl := hid hsl
  go_enter Try.func85, Try.ntmps85
  go_wp2_with (first
    | ((with_reducible refine gd_ld ?_); first | refine wl_of rfl (hs.ld 0 rfl rfl (sc_of rfl) rfl ?_))
    | ((with_reducible refine gd_bd ?_); refine wl_of rfl (wp_of_run (ex_build rfl (run_build54 _ k a ⟨t.toArray⟩)) ?_))
    | ((with_reducible refine gd_bs ?_); refine wl_of rfl (hs.bs1 el44 (by decide) rfl (vs := Tok.cells ⟨k, t, a⟩) rfl rfl ?_); intro gb w hgb hs; replace hs : St w0 D ([(gb, row 54 (Tok.cells ⟨k, t, a⟩)), (s, row 91 [tv, at_, ov, bad])] ++ CO ++ []) w := (by rw [List.append_nil]; exact hs))
    | ((with_reducible refine gd_ap ?_); (refine wl_of rfl (St.app [_, _] [] hs el44 hsl.out (m := 1) (by first | exact ev rfl | rfl) (by first | exact ev rfl | rfl) (news := Tok.cells ⟨k, t, a⟩) rfl (cells_at (hs.at 0 rfl)) (tok_one _) (by unfold maxLen; omega) (by omega) ?_)); intro ov' CO' w hs hsl'; have hone := hid hsl'.one; replace hsl' := hid hsl')
    | ((with_reducible refine gd_st ?_); refine wl_of rfl (hs.st0 1 rfl rfl (sc_of rfl) (v := ov') (by first | exact ev rfl | rfl) hone.out (Nat.le_of_ble_eq_true rfl) ?_); intro w hs))
  go_end0
  refine ⟨rfl, ov', CO', by rw [hT1.out]; exact hsl'.out, ?_⟩
  have := St.drop (A := [_]) (B := (s, row 91 [tv, at_, ov', bad]) :: CO') (by simpa using hs)
  exact this
end Go.Proofs.Ytclingkhdmhhoaa

/- The walk of slices.Chunk on bytes. No condition. -/
import Derived.Test.YtclingkhdmhhoaaSnG
namespace Go.Proofs.Ytclingkhdmhhoaa
open Go.RowKit Go.Shelf
set_option linter.unusedSimpArgs false
set_option linter.unusedVariables false
attribute [local go_sem] Oper.semAt_some

/-- a part of 64 bytes, as the iterator hands it -/
def chunkV (bb o n : Nat) (i : Nat) : Value := .slice (some ⟨bb, o + i * 64, none⟩) (min 64 (n - i * 64)) (min 64 (n - i * 64))
def encC (bb o n : Nat) (i : Nat) : Array Value := #[chunkV bb o n i]
/-- these blocks are as they were -/
def KeepB (S : List Nat) (A B : World) : Prop := ∀ x ∈ S, B.heap[x]? = A.heap[x]?
theorem keepB_t {S : List Nat} {A B C : World} (h : KeepB S A B) (k : KeepB S B C) : KeepB S A C := fun x hx => (k x hx).trans (h x hx)
theorem keepB_b {S : List Nat} {w : World} (hS : ∀ x ∈ S, x < w.heap.size) (W : World) (l : Nat) (o o' : Obj) (hl : w.heap.size ≤ l) (_ : W.heap[l]? = some o) (_ : o.isCells = false) (_ : o.isWalk = false) : KeepB S W (W.putObj l o') := by
  intro x hx
  have := hS x hx
  have hne : x ≠ l := by omega
  exact setBlk_other (w := W) (b := l) (k := x) (o' := o') hne

theorem run_slf {w : World} {bb o len cap p : Nat} (h1 : p < len) (h2 : len ≤ cap) (k : IntKind) : (Instr.sliceAt 43 (.slice (some ⟨bb, o, none⟩) len cap) (some (.int k p)) none none).run Try.prog w = .ok (.slice (some ⟨bb, o + p, none⟩) (len - p) (cap - p)) w := by
  have a1 : p ≤ len := by omega
  have a2 : ¬ cap = p := by omega
  simp [Instr.sliceAt, Instr.slice, Instr.sliceBounds, Instr.sliceBound, asIntOf, run_underlying Try.underlying43, run_sizeOf st43.siz, a1, a2, add_none]
theorem ex_slf {P : Program} {ρ : Operand → Value} {w : World} {dst : Option Tmp} {t : TypeId} {pos : String} {aft : Array Edge} {g : Option (Nat × Bool)} {x lo : Operand} {v vl v' : Value} {ty : TypeId} (hx : ρ x = v) (hl : ρ lo = vl) (h : (Instr.sliceAt ty v (some vl) none none).run P w = .ok v' w) :
    (execOp ρ ⟨dst, .slice ty x (some lo) none none, t, pos, aft, g⟩).run P w = .ok (.value v') w := by simp [execOp, hx, hl, h]
theorem run_sl4 {w : World} {bb o len cap p e q : Nat} (hq : q = p + e) (h1 : p + e ≤ cap) (h2 : 0 < e) (k k' k'' : IntKind) : (Instr.sliceAt 43 (.slice (some ⟨bb, o, none⟩) len cap) (some (.int k p)) (some (.int k' q)) (some (.int k'' q))).run Try.prog w = .ok (.slice (some ⟨bb, o + p, none⟩) e e) w := by
  have a2 : ¬ q = p := by omega
  have a3 : p ≤ q := by omega
  have a4 : q ≤ cap := by omega
  have a5 : q - p = e := by omega
  clear hq h1 h2
  simp [Instr.sliceAt, Instr.slice, Instr.sliceBounds, Instr.sliceBound, asIntOf, run_underlying Try.underlying43, run_sizeOf st43.siz, a2, a3, a4, a5, add_none]
theorem ex_sl4 {P : Program} {ρ : Operand → Value} {w : World} {dst : Option Tmp} {t : TypeId} {pos : String} {aft : Array Edge} {g : Option (Nat × Bool)} {x lo hi mx : Operand} {v vl vh vm v' : Value} {ty : TypeId} (hx : ρ x = v) (hl : ρ lo = vl) (hh : ρ hi = vh) (hm : ρ mx = vm) (h : (Instr.sliceAt ty v (some vl) (some vh) (some vm)).run P w = .ok v' w) :
    (execOp ρ ⟨dst, .slice ty x (some lo) (some hi) (some mx), t, pos, aft, g⟩).run P w = .ok (.value v') w := by simp [execOp, hx, hl, hh, hm, h]
theorem gdi_sl3 {F : Fence} {n : Nat} {P : Program} {ops : Array Oper} {Q : Exit → Act → World → Prop} {a : Act} {w : World} {rest : List Oper} {dst : Option Tmp} {t ty : TypeId} {pos : String} {aft : Array Edge} {g : Option (Nat × Bool)} {x lo hi mx : Operand} (h : wpListIn F n P ops Q (⟨dst, .slice ty x (some lo) (some hi) (some mx), t, pos, aft, g⟩ :: rest) a w) : wpListIn F n P ops Q (⟨dst, .slice ty x (some lo) (some hi) (some mx), t, pos, aft, g⟩ :: rest) a w := h
theorem ex_len {P : Program} {ρ : Operand → Value} {dst : Option Tmp} {t tt e : TypeId} {pos : String} {aft : Array Edge} {g : Option (Nat × Bool)} {x : Operand} {A : Option Addr} {n c : Nat} (ht : P.underlying tt = some (.slice e)) (hx : ρ x = .slice A n c) (w : World) :
    (execOp ρ ⟨dst, .call { callee := .builtin .len, args := #[x], argTypes := #[tt] }, t, pos, aft, g⟩).run P w = .ok (.value (.int .i64 n)) w := by
  simp [execOp, resolve, invoke, builtin, hx]
  go_simp
theorem ex_min {P : Program} {ρ : Operand → Value} {dst : Option Tmp} {t tt : TypeId} {pos : String} {aft : Array Edge} {g : Option (Nat × Bool)} {x y : Operand} {a b : Nat} (hx : ρ x = .int .i64 a) (hy : ρ y = .int .i64 b) (w : World) :
    (execOp ρ ⟨dst, .call { callee := .builtin .min, args := #[x, y], argTypes := #[tt, tt] }, t, pos, aft, g⟩).run P w = .ok (.value (.int .i64 ((min a b : Nat) : Int))) w := by
  simp [execOp, resolve, invoke, builtin, hx, hy]
  go_simp
  omega
set_option maxRecDepth 4000 in
set_option maxHeartbeats 2000000 in
theorem chunk1 (n l b2 b3 bb o len cap : Nat) (hlen : len ≤ 1048576) (hcap : len ≤ cap) (hcm : cap ≤ maxLen) (A : Option Addr) (hA : len = 0 ∨ A = some ⟨bb, o, none⟩) (J Jx : List Nat → World → Prop) (W : World) (hJa : AbidesFrom W.heap.size J)
    (hY : ∀ pre x W, J pre W → pre.length < (len + 63) / 64 → YieldAt Fence.wide (n - 1) Try.prog l (encC bb o len x) W fun e W' =>
      (e = .returned (.bool true) ∧ J (pre ++ [x]) W' ∧ KeepB [b2, b3] W W') ∨ (e = .returned (.bool false) ∧ Jx (pre ++ [x]) W'))
    (h2 : W.heap[b2]? = some (row 43 [.slice A len cap])) (h3 : W.heap[b3]? = some (row 3 [.int .i64 64])) (h0 : J [] W) :
    CallsIn Fence.wide n Try.prog 80 #[.func (.yield l) #[] #[], .pointer (some ⟨b2, 0, none⟩), .pointer (some ⟨b3, 0, none⟩)] W fun e W' => (∃ v, e = .returned v) ∧
      ((∃ ys : List Nat, ys = List.range ((len + 63) / 64) ∧ J ys W') ∨ (∃ pre : List Nat, pre <+: List.range ((len + 63) / 64) ∧ Jx pre W')) := by
  refine callsIn_of_wp Try.func80 rfl trivial ?_ rfl
  simp only [Try.ntmps80, List.size_toArray, List.length_cons, List.length_nil, Nat.reduceAdd, Nat.reduceSub, Array.replicate_succ, Array.replicate_zero, List.push_toArray, List.append_toArray, List.nil_append, List.cons_append]
  gi_wp2
  gi_loopw [4] (fun i wr => ∃ k : Nat, i = .int .i64 (((k * 64 : Nat)) : Int) ∧ k ≤ (len + 63) / 64 ∧ J (List.range k) wr ∧ wr.heap[b2]? = some (row 43 [.slice A len cap]) ∧ wr.heap[b3]? = some (row 3 [.int .i64 64]))
    (fun i _ => ((len + 64 : Nat) - intOf i).toNat)
  case atStart => exact ⟨0, rfl, by omega, h0, h2, h3⟩
  case round =>
    clear h2 h3 h0
    obtain ⟨k, rfl, hk, hJ, h2, h3⟩ := hrel
    have c2 : wr.cell? ⟨b2, 0, none⟩ = some (.slice A len cap) := row_cell h2 0
    have c3 : wr.cell? ⟨b3, 0, none⟩ = some (.int .i64 64) := row_cell h3 0
    by_cases hlt : k * 64 < len
    · obtain rfl : A = some ⟨bb, o, none⟩ := by rcases hA with h | h; omega; exact h
      obtain ⟨p, hp⟩ : ∃ p, k * 64 = p := ⟨_, rfl⟩
      rw [hp] at hlt ⊢
      have q1 : decide (p < len) = true := by simpa using hlt
      replace hp := hid hp
      gi_wp2
      rw [wpIn_wide]
      obtain ⟨e, he⟩ : ∃ e, min 64 (len - p) = e := ⟨_, rfl⟩
      have he0 : 0 < e := by omega
      have he1 : p + e ≤ len := by omega
      have he2 : e ≤ 64 := by omega
      refine wp_region_phases [] (fun _ => wr.drew) follows (by kernel_rfl) (by kernel_rfl) rfl ?_
      refine LinP.rd 0 rfl rfl (by kernel_rfl) (by kernel_rfl) (ex_ld_s (ev rfl) sc3 (row_cell (w := wr.drew) h3 0)) (pu rfl (by simp only [List.set_cons_succ, List.set_cons_zero]; rfl)) ?_
      refine LinP.rd 0 rfl rfl (by kernel_rfl) (by kernel_rfl) (ex_ld_s (ev rfl) sc43 (row_cell (w := wr.drew) h2 0)) (pu rfl (by simp only [List.set_cons_succ, List.set_cons_zero]; rfl)) ?_
      refine LinP.pure rfl rfl (ex_move (ev rfl)) (pu rfl (by simp only [List.set_cons_succ, List.set_cons_zero]; rfl)) ?_
      refine LinP.pure rfl rfl (fun w => ex_slf (ev rfl) (ev rfl) (run_slf hlt hcap .i64)) (pu rfl (by simp only [List.set_cons_succ, List.set_cons_zero]; rfl)) ?_
      refine LinP.pure rfl rfl (ex_len Try.underlying43 (ev rfl)) (pu rfl (by simp only [List.set_cons_succ, List.set_cons_zero]; rfl)) ?_
      refine LinP.pure rfl rfl (ex_min (a := 64) (b := len - p) (ev rfl) (ev rfl)) (pu rfl (by simp only [List.set_cons_succ, List.set_cons_zero]; rfl)) ?_
      rw [he]
      refine LinP.pure rfl rfl (ex_assign (ev rfl)) (pu rfl (by simp only [List.set_cons_succ, List.set_cons_zero]; rfl)) ?_
      refine LinP.done ?_
      have h2d : wr.drew.heap[b2]? = some (row 43 [.slice (some ⟨bb, o, none⟩) len cap]) := h2
      have h3d : wr.drew.heap[b3]? = some (row 3 [.int .i64 64]) := h3
      have hJd : J (List.range k) wr.drew := hJa _ _ _ none hJ ⟨rfl, rfl, rfl, Nat.le_refl _, fun _ _ _ => rfl⟩ (fun r e => by cases e)
      have c2d : wr.drew.cell? ⟨b2, 0, none⟩ = some (.slice (some ⟨bb, o, none⟩) len cap) := row_cell h2d 0
      have c3d : wr.drew.cell? ⟨b3, 0, none⟩ = some (.int .i64 64) := row_cell h3d 0
      clear q1 c2 c3 h2 h3 hJ hJa
      generalize wr.drew = W2 at *
      obtain ⟨fn, tmps, assign, body, hy, hR⟩ := hY (List.range k) k W2 hJd (by rw [List.length_range]; have := hp.out; omega)
      dsimp only [encC, chunkV] at hy
      rw [hp.out, he] at hy
      have hk1 : k + 1 ≤ (len + 63) / 64 := by have := hp.out; omega
      replace he := hid he
      gi_wp2_with (first
        | ((with_reducible refine gdi_sl3 ?_); refine wli_of wd_wide rfl nofun (wp_of_run (ex_sl4 (by first | exact ev rfl | rfl) (by first | exact ev rfl | rfl) (by first | exact ev rfl | rfl) (by first | exact ev rfl | rfl) (run_sl4 (e := e) rfl (by omega) he0 .i64 .i64 .i64)) ?_)))
      refine ⟨nofun, hR.mono ?_⟩
      rintro e' W3 (⟨rfl, hJ3, hk3⟩ | ⟨rfl, hJx3⟩)
      · have h23 := (hk3 b2 (by simp)).trans h2d
        have h33 := (hk3 b3 (by simp)).trans h3d
        have c33 : W3.cell? ⟨b3, 0, none⟩ = some (.int .i64 64) := row_cell h33 0
        clear c2d c3d h2d h3d hy
        gi_wp2
        go_roundw
        case rel => exact ⟨k + 1, by have := hp.out; congr 1; omega, hk1, by rw [List.range_succ]; exact hJ3, h23, h33⟩
        case measure => have := hp.out; simp [intOf]; omega
      · clear c2d c3d h2d h3d hy
        gi_wp2
        refine bodyPost_ret (results_none rfl _ _ _) rfl ?_
        refine ⟨⟨_, rfl⟩, .inr ⟨List.range k ++ [k], ?_, hJx3⟩⟩
        rw [← List.range_succ]
        exact List.prefix_iff_eq_take.2 (by rw [List.length_range, List.take_range, Nat.min_eq_left hk1])
    · have hke : k = (len + 63) / 64 := by omega
      obtain ⟨p, hp⟩ : ∃ p, k * 64 = p := ⟨_, rfl⟩
      rw [hp] at hlt ⊢
      have q1 : decide (p < len) = false := by simpa using hlt
      replace hp := hid hp
      clear hJa hY h2 h3 c3
      replace hke := hid hke
      gi_wp2
      go_end0
      exact ⟨⟨_, rfl⟩, .inl ⟨_, by rw [hke.out], hJ⟩⟩
end Go.Proofs.Ytclingkhdmhhoaa

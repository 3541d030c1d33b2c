/- The disk in memory, and the walks of package disk's functions. No condition. -/
import Derived.Test.YtclingkhdmhhoaaEqArr
namespace Go.Proofs.Ytclingkhdmhhoaa
open Go.RowKit
set_option linter.unusedSimpArgs false

theorem el80 : El Try.prog 80 85 65 72 := ⟨Try.underlying80, by
  have h : (Try.prog.info? 85).map (fun i => (i.zero.map (fun z => z.cells.size), i.size, i.bytes)) = some (some 65, 65, 72) := by kernel_rfl
  obtain ⟨i, hi, hz⟩ := Option.map_eq_some_iff.1 h
  simp only [Prod.mk.injEq] at hz
  obtain ⟨z, hz0, hz1⟩ := Option.map_eq_some_iff.1 hz.1
  exact ⟨i, z, hi, hz0, hz.2.1, hz.2.2, hz1⟩, by decide⟩

theorem run_bs1 {P : Program} {w : World} {t e size bytes : Nat} {v : Value} {vs : List Value} (he : El P t e size bytes) (hsm : size ≤ 16777216) (hv : v.cells.toList = vs) (hl : vs.length = size) :
    (Instr.buildSlice t 1 #[(0, v)]).run P w = .ok (.slice (some ⟨w.heap.size, 0, none⟩) 1 1) (w.alloc (row e vs)) := by
  obtain ⟨i, z, hi, hz, hsz, hbs, hzs⟩ := he.inf
  subst hsz
  have hpos := he.pos
  have h1 : ¬ 16777216 < i.size := by omega
  have h2 : i.size ≠ 0 := by omega
  have hcs : v.cells.size = i.size := by rw [← Array.length_toList, hv, hl]
  have hf := fold_splice v.cells.toList 0 0 ((Array.range i.size).map fun x => z.cells[x % i.size]!) (by simp [hcs])
  simp [Instr.buildSlice, run_underlying he.und, sizeOf, typeInfo, zeroValue, hi, hz, h1, h2, Instr.fill, hcs, hzs, newRow]
  have e1 : (Array.foldl (fun (cs : Array Value) (x : Value × Nat) => cs.setIfInBounds x.2 x.1) ((Array.range i.size).map fun x => z.cells[x % i.size]!) v.cells.zipIdx) = vs.toArray := by
    rw [← Array.foldl_toList, Array.toList_zipIdx]
    simp only [Nat.zero_add, hv] at hf
    rw [hv, hf]
    congr 1
    unfold splice
    simp [hl]
  simp only [Array.size_zipIdx, hcs] at e1
  rw [e1]
  rfl

theorem run_build85 (w : World) (at_ : Int) (s : List Value) (hs : s.length = 64) :
    (Instr.build 85 #[(0, .int .i64 at_), (1, .agg s.toArray)]).run Try.prog w = .ok (.agg (Value.int .i64 at_ :: s).toArray) w := by
  go_simp
  have hz : Try.zeroCells85.toList.length = 65 := by kernel_rfl
  have h := fold_splice s 1 0 (Try.zeroCells85.setIfInBounds 0 (.int .i64 at_)) (by simp [hs])
  rw [h]
  congr 1
  unfold splice
  have h0 : Try.zeroCells85.toList = .int .i64 0 :: zsec := by kernel_rfl
  simp [h0, zsec, hs]


def flatW (ws : List (Nat × List UInt8)) : List Value := ws.flatMap fun p => .int .i64 p.1 :: sv p.2

theorem follows : Try.prog.follows .mixedOrders = true := by kernel_rfl

def wsOf (l : List World) (p : Nat) : World := l.getD p default

theorem cells_at {w : World} {b : Nat} {T : TypeId} {l : List Value} (h : w.heap[b]? = some (row T l)) : ∀ j u, l[j]? = some u → w.cell? ((⟨b, 0, none⟩ : Addr).add j) = some u := by
  intro j u hu
  have hadd : (⟨b, 0, none⟩ : Addr).add j = ⟨b, j, none⟩ := by unfold Addr.add; split <;> simp_all
  rw [hadd, row_cell h]; exact hu

set_option maxHeartbeats 400000 in
set_option maxRecDepth 10000 in
theorem write1 {w : World} {bd ba bs d n : Nat} {at_ : Int} {s ws : List Value} {L lv op stp : Value} {M CL F : List (Nat × Obj)}
    (h : Has w (([(bs, row 38 s), (ba, row 3 [.int .i64 at_]), (bd, row 25 [.pointer (some ⟨d, 0, none⟩)]), (d, row 82 [L, lv, op, stp])] ++ M) ++ CL ++ F)) (hs : s.length = 64) (h1 : ∀ v ∈ s, v.oneCell' = true)
    (hsl : Sl 85 65 lv n ws CL) (hn : n ≤ 1073741824) :
    Calls Try.prog 39 #[.pointer (some ⟨bd, 0, none⟩), .pointer (some ⟨ba, 0, none⟩), .pointer (some ⟨bs, 0, none⟩)] w fun e w' => e = .returned (.tuple #[]) ∧
      ∃ lv' CL', St w (keys (([(bs, row 38 s), (ba, row 3 [.int .i64 at_]), (bd, row 25 [.pointer (some ⟨d, 0, none⟩)]), (d, row 82 [L, lv, op, stp])] ++ M) ++ CL ++ F))
        (([(bs, row 38 s), (ba, row 3 [.int .i64 at_]), (bd, row 25 [.pointer (some ⟨d, 0, none⟩)]), (d, row 82 [L, lv', op, stp])] ++ M) ++ CL' ++ F) w' ∧ Sl 85 65 lv' (n + 1) (ws ++ .int .i64 at_ :: s) CL' := by
  have st0 := (St.start h).drew
  have st1 := st0.alloc (row 85 (.int .i64 at_ :: s))
  have hnew : (w.drew.alloc (row 85 (.int .i64 at_ :: s))).heap[w.heap.size]? = some (row 85 (.int .i64 at_ :: s)) := heap_alloc_new _ _
  obtain ⟨lv', CL', W2, hrun, st2, hsl'⟩ := run_append_sl (P := Try.prog) (ty := 80) (c := 1) (A := (w.heap.size, row 85 (.int .i64 at_ :: s)) :: ([(bs, row 38 s), (ba, row 3 [.int .i64 at_]), (bd, row 25 [.pointer (some ⟨d, 0, none⟩)]), (d, row 82 [L, lv, op, stp])] ++ M)) (B := F)
    (m := 1) (ad := ⟨w.heap.size, 0, none⟩) (news := .int .i64 at_ :: s) el80 st1 hsl (by simp [hs]) (cells_at hnew) (List.forall_mem_cons.2 ⟨rfl, h1⟩) (by unfold maxLen; omega) (by omega)
  have st3 := st2.setAt (k := 4) rfl (row 82 [L, lv', op, stp])
  have kbd : ∀ p, 0 ≤ p → p ≤ 2 → (wsOf [w.drew, w.drew.alloc (row 85 (.int .i64 at_ :: s)), W2, setBlk W2 d (row 82 [L, lv', op, stp])] p).heap[bd]? = some (row 25 [.pointer (some ⟨d, 0, none⟩)]) := by
    intro p _ hp
    rcases p with _ | _ | _ | p
    · exact st0.at 2 rfl
    · exact st1.at 3 rfl
    · exact st2.at 3 rfl
    · omega
  have kd : ∀ p, 0 ≤ p → p ≤ 1 → (wsOf [w.drew, w.drew.alloc (row 85 (.int .i64 at_ :: s)), W2, setBlk W2 d (row 82 [L, lv', op, stp])] p).heap[d]? = some (row 82 [L, lv, op, stp]) := by
    intro p _ hp
    rcases p with _ | _ | p
    · exact st0.at 3 rfl
    · exact st1.at 4 rfl
    · omega
  have hone : lv'.oneCell' = true := by rcases hsl'.2 with ⟨e, _⟩ | ⟨_, _, _, e, _⟩ <;> rw [e] <;> rfl
  go_enter Try.func39, Try.ntmps39
  refine wp_region_phases [8, 9, 12] (wsOf [w.drew, w.drew.alloc (row 85 (.int .i64 at_ :: s)), W2, setBlk W2 d (row 82 [L, lv', op, stp])]) follows (by kernel_rfl) (by kernel_rfl) rfl ?_
  refine LinP.read 0 2 rfl rfl (by kernel_rfl) (by kernel_rfl) (fun p h1 h2 => ex_ld_s (ev rfl) sc25 (row_cell (kbd p h1 h2) 0)) (pu rfl (by simp only [List.set_cons_succ, List.set_cons_zero]; rfl)) ?_
  refine LinP.read 0 1 rfl rfl (by kernel_rfl) (by kernel_rfl) (fun p h1 h2 => ex_ld_s (ev rfl) sc25 (row_cell (kbd p h1 (by omega)) 0)) (pu rfl (by simp only [List.set_cons_succ, List.set_cons_zero]; rfl)) ?_
  refine LinP.pure rfl rfl (ex_nilCheck (ev rfl)) (pu rfl (by simp only [List.set_cons_succ, List.set_cons_zero]; rfl)) ?_
  refine LinP.pure rfl rfl (ex_fieldAddr fa82_1 (ev rfl)) (pu rfl (by simp only [List.set_cons_succ, List.set_cons_zero]; rfl)) ?_
  refine LinP.read 0 1 rfl rfl (by kernel_rfl) (by kernel_rfl) (fun p h1 h2 => ex_ld_s (ev rfl) sc80 (row_cell (kd p h1 h2) 1)) (pu rfl (by simp only [List.set_cons_succ, List.set_cons_zero]; rfl)) ?_
  refine LinP.rd 0 rfl rfl (by kernel_rfl) (by kernel_rfl) (ex_ld_s (ev rfl) sc3 (row_cell (st0.at 1 rfl) 0)) (pu rfl (by simp only [List.set_cons_succ, List.set_cons_zero]; rfl)) ?_
  refine LinP.rd 0 rfl rfl (by kernel_rfl) (by kernel_rfl) (ex_ld_row (ev rfl) ag38 (st0.at 0 rfl) (by omega) (show cut s 0 64 = s by simp [cut, ← hs])) (pu rfl (by simp only [List.set_cons_succ, List.set_cons_zero]; rfl)) ?_
  refine LinP.pure rfl rfl (fun w => ex_build rfl (run_build85 w at_ s hs)) (pu rfl (by simp only [List.set_cons_succ, List.set_cons_zero]; rfl)) ?_
  refine LinP.write 0 rfl rfl (by kernel_rfl) (by kernel_rfl) (ex_buildSlice rfl (run_bs1 el80 (by decide) rfl (by simp [hs]))) (pu rfl (by simp only [List.set_cons_succ, List.set_cons_zero]; rfl)) ?_
  refine LinP.write 1 rfl rfl (by kernel_rfl) (by kernel_rfl) (ex_app (ev rfl) (ev rfl) hrun) (pu rfl (by simp only [List.set_cons_succ, List.set_cons_zero]; rfl)) ?_
  refine LinP.pure rfl rfl (ex_nilCheck (ev rfl)) (pu rfl (by simp only [List.set_cons_succ, List.set_cons_zero]; rfl)) ?_
  refine LinP.pure rfl rfl (ex_fieldAddr fa82_1 (ev rfl)) (pu rfl (by simp only [List.set_cons_succ, List.set_cons_zero]; rfl)) ?_
  refine LinP.store 2 rfl rfl (by kernel_rfl) (by kernel_rfl) (ex_st_s (off := 1) (v := lv') (ev rfl) (ev rfl) sc80 (st2.at 4 rfl) (Nat.le_of_ble_eq_true rfl) hone rfl) (pu0 rfl) ?_
  refine LinP.done ?_
  refine bodyPost_end (results_none rfl _ _ _) rfl ?_
  refine ⟨rfl, lv', CL', ?_, hsl'⟩
  exact St.drop (A := [(w.heap.size, row 85 (Value.int .i64 at_ :: s))]) st3


theorem write1n {w : World} {bd ba bs d n : Nat} {at_ : Int} {s ws : List Value} {L lv op stp : Value} {M CL : List (Nat × Obj)}
    (h : Has w (([(bs, row 38 s), (ba, row 3 [.int .i64 at_]), (bd, row 25 [.pointer (some ⟨d, 0, none⟩)]), (d, row 82 [L, lv, op, stp])] ++ M) ++ CL)) (hs : s.length = 64) (h1 : ∀ v ∈ s, v.oneCell' = true)
    (hsl : Sl 85 65 lv n ws CL) (hn : n ≤ 1073741824) :
    Calls Try.prog 39 #[.pointer (some ⟨bd, 0, none⟩), .pointer (some ⟨ba, 0, none⟩), .pointer (some ⟨bs, 0, none⟩)] w fun e w' => e = .returned (.tuple #[]) ∧
      ∃ lv' CL', St w (keys (([(bs, row 38 s), (ba, row 3 [.int .i64 at_]), (bd, row 25 [.pointer (some ⟨d, 0, none⟩)]), (d, row 82 [L, lv, op, stp])] ++ M) ++ CL))
        (([(bs, row 38 s), (ba, row 3 [.int .i64 at_]), (bd, row 25 [.pointer (some ⟨d, 0, none⟩)]), (d, row 82 [L, lv', op, stp])] ++ M) ++ CL') w' ∧ Sl 85 65 lv' (n + 1) (ws ++ .int .i64 at_ :: s) CL' := by
  have := write1 (M := M) (CL := CL) (F := []) (by simpa using h) hs h1 hsl hn
  simpa using this

def deadB (ops stop : Int) : Bool := stop != -1 && decide (stop ≤ ops)

theorem dead_any {w : World} {d : Nat} {L lv : Value} {ops stop : Int} (hd : w.heap[d]? = some (row 82 [L, lv, .int .i64 ops, .int .i64 stop])) :
    Calls Try.prog 21 #[.pointer (some ⟨d, 0, none⟩)] w fun e w' => e = .returned (.bool (deadB ops stop)) ∧ ∃ n, w' = w.drewN n := by
  have h2 : w.cell? ⟨d, 2, none⟩ = some (.int .i64 ops) := row_cell hd 2
  have h3 : w.cell? ⟨d, 3, none⟩ = some (.int .i64 stop) := row_cell hd 3
  clear hd
  by_cases hn : (stop != -1) = true
  · have e : deadB ops stop = decide (stop ≤ ops) := by simp [deadB, hn]
    rw [e]; clear e
    go_enter Try.func21, Try.ntmps21
    go_wp2
    go_quiet (fail)
    go_wp2
    go_ret
    exact ⟨rfl, _, rfl⟩
  · have hn : (stop != -1) = false := by simpa using hn
    have e : deadB ops stop = false := by simp [deadB, hn]
    rw [e]; clear e
    go_enter Try.func21, Try.ntmps21
    go_wp2
    go_quiet (fail)
    go_wp2
    go_ret
    exact ⟨rfl, _, rfl⟩

set_option maxHeartbeats 400000 in
theorem len_any {w : World} {d n : Nat} {A : Option Addr} {c : Nat} {lv o s : Value} (hd : w.heap[d]? = some (row 82 [.slice A n c, lv, o, s])) :
    Calls Try.prog 52 #[.pointer (some ⟨d, 0, none⟩)] w fun e w' => e = .returned (.int .i64 n) ∧ w = w' := by
  have h2 : w.cell? ⟨d, 0, none⟩ = some (.slice A n c) := row_cell hd 0
  clear hd
  go_enter Try.func52, Try.ntmps52
  go_wp2
  go_ret
  exact ⟨rfl, rfl⟩

set_option maxHeartbeats 400000 in
theorem there_any {w : World} {d n : Nat} {A : Option Addr} {c : Nat} {lv o s : Value} {at_ : Int} (hd : w.heap[d]? = some (row 82 [.slice A n c, lv, o, s])) :
    Calls Try.prog 37 #[.pointer (some ⟨d, 0, none⟩), .int .i64 at_] w fun e w' => e = .returned (.bool (decide (0 ≤ at_ ∧ at_ < n))) ∧ w = w' := by
  by_cases h0 : 0 ≤ at_
  · have e : decide (0 ≤ at_ ∧ at_ < n) = decide (at_ < n) := by simp [h0]
    rw [e]; clear e
    go_enter Try.func37, Try.ntmps37
    go_wp2_with (go_at_call 52; refine (len_any hd).mono ?_; rintro e w' ⟨rfl, rfl⟩)
    go_ret
    exact ⟨rfl, rfl⟩
  · have e : decide (0 ≤ at_ ∧ at_ < n) = false := by simp [h0]
    rw [e]; clear e
    go_enter Try.func37, Try.ntmps37
    go_wp2
    go_ret
    exact ⟨rfl, rfl⟩




set_option maxRecDepth 4000 in
set_option maxHeartbeats 400000 in
theorem powered_any {w : World} {d : Nat} {L lv : Value} {ops stop : Int} {A B : List (Nat × Obj)} (h : Has w (A ++ (d, row 82 [L, lv, .int .i64 ops, .int .i64 stop]) :: B)) (hb : 0 ≤ ops) (hb2 : ops ≤ 1073741824)
    {f : Nat} {first caps : Array Value} {R : World → Prop} (hcf : ∀ args w, (callFunc f args).run Try.prog w = .ok (.enter f args) w)
    (hdead : deadB ops stop = true → ∀ w', St w (keys (A ++ (d, row 82 [L, lv, .int .i64 ops, .int .i64 stop]) :: B)) (A ++ (d, row 82 [L, lv, .int .i64 ops, .int .i64 stop]) :: B) w' → R w')
    (hgo : deadB ops stop = false → ∀ w', St w (keys (A ++ (d, row 82 [L, lv, .int .i64 ops, .int .i64 stop]) :: B)) (A ++ (d, row 82 [L, lv, .int .i64 (ops + 1), .int .i64 stop]) :: B) w' →
      Calls Try.prog f (first ++ caps) w' (fun e w'' => e = .returned (.tuple #[]) ∧ R w'')) :
    Calls Try.prog 38 #[.pointer (some ⟨d, 0, none⟩), .func (.func f) first caps] w (fun e w' => e = .returned (.tuple #[]) ∧ R w') := by
  have hs := St.start h
  have hd := h.known (d, row 82 [L, lv, .int .i64 ops, .int .i64 stop]) (by simp)
  cases hdd : deadB ops stop with
  | true =>
    have hR := fun n => hid (hdead hdd _ (hs.drewN n))
    clear hdead hgo
    go_enter Try.func38, Try.ntmps38
    go_wp2_with (go_at_call 21; refine (dead_any hd).mono ?_; rintro e w' ⟨rfl, n, rfl⟩; rw [hdd])
    go_end0
    exact ⟨rfl, (hR n).out⟩
  | false =>
    have hgo' := hid (hgo hdd)
    clear hdead hgo
    go_enter Try.func38, Try.ntmps38
    go_wp2_with (first
      | (go_at_call 21; refine (dead_any hs.mid).mono ?_; rintro e w ⟨rfl, hq⟩; replace hs := hs.quiet hq; clear hq; rw [hdd])
      | ((with_reducible refine gd_ld ?_); refine wl_of rfl (wp_ld hs.mid rfl (sc_of rfl) rfl ?_))
      | ((with_reducible refine gd_st ?_); refine wl_of rfl (St.stm hs rfl (sc_of rfl) rfl rfl (Nat.le_of_ble_eq_true rfl) ?_); intro w hs)
      | (refine (hgo'.out _ hs).mono ?_; rintro e w ⟨rfl, hR⟩))
    go_end0
    exact ⟨rfl, hR⟩
theorem cf39 (args : Array Value) (w : World) : (callFunc 39 args).run Try.prog w = .ok (.enter 39 args) w := by go_simp
theorem cf40 (args : Array Value) (w : World) : (callFunc 40 args).run Try.prog w = .ok (.enter 40 args) w := by go_simp
end Go.Proofs.Ytclingkhdmhhoaa

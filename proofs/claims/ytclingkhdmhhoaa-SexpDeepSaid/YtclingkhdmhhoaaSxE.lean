/- Chapter 8: the walk of the document's Same and of the law's same, over trees that are one. No condition. -/
import Derived.Test.YtclingkhdmhhoaaSxB
import Derived.Test.YtclingkhdmhhoaaLxV
namespace Go.Proofs.Ytclingkhdmhhoaa
open Go.RowKit
set_option linter.unusedSimpArgs false
set_option linter.unusedVariables false

/-- no list has more kids than that -/
inductive Few (N : Nat) : Tr → Prop
  | mk (l : Bool) (t : Tok) (ks : List Tr) (hl : ks.length ≤ N) (h : ∀ k ∈ ks, Few N k) : Few N (.mk l t ks)
/-- these blocks hold this -/
def Kn (w : World) (F : List (Nat × Obj)) : Prop := ∀ p ∈ F, w.heap[p.1]? = some p.2
theorem Kn.old {w0 w : World} {F H : List (Nat × Obj)} (h : Kn w0 F) (hs : St w0 [] H w) : Kn w F := fun p hp => by
  have h1 := h p hp
  have hlt : p.1 < w0.heap.size := (Array.getElem?_eq_some_iff.1 h1).1
  rw [hs.frame p.1 hlt (by simp)]; exact h1
theorem St.kn {w0 w : World} {D : List Nat} {F H : List (Nat × Obj)} (hs : St w0 D H w) (h : ∀ p ∈ F, p ∈ H) : Kn w F := fun p hp => hs.has.known p (h p hp)
theorem RowR.head {F : List (Nat × Obj)} {A : Option Addr} {n c : Nat} {ks : List Tr} (h : RowR F (.slice A n c) ks) (hn : 0 < ks.length) :
    ∃ g css junk, A = some ⟨g, 0, none⟩ ∧ (g, row 76 (css.flatten ++ junk)) ∈ F ∧ Reps F css ks := by
  rcases h with ⟨_, rfl⟩ | ⟨g, cap, css, junk, he, hm, hr⟩
  · simp at hn
  · cases he; exact ⟨g, css, junk, rfl, hm, hr⟩
theorem Reps.get {F : List (Nat × Obj)} {css : List (List Value)} {ks : List Tr} (h : Reps F css ks) {j : Nat} (hj : j < ks.length) : ∃ cs k, css[j]? = some cs ∧ ks[j]? = some k ∧ cs.length = 5 ∧ Rep F cs k := by
  have hl := h.len
  have e1 : css[j]? = some css[j] := List.getElem?_eq_getElem (by omega)
  have e2 : ks[j]? = some ks[j] := List.getElem?_eq_getElem hj
  exact ⟨_, _, e1, e2, h.five _ (List.getElem_mem (by omega)), h.rep j _ _ e1 e2⟩
/-- a row's element is loaded -/
theorem Reps.ld {F : List (Nat × Obj)} {css : List (List Value)} {ks : List Tr} (h : Reps F css ks) {j : Nat} {cs : List Value} (hj : css[j]? = some cs) (junk : List Value) : cut (css.flatten ++ junk) (0 + j * 5) 5 = cs ∧ 0 + j * 5 + 5 ≤ (css.flatten ++ junk).length := by
  refine ⟨by rw [Nat.zero_add]; exact flat_cut h.five hj, ?_⟩
  have hlt : j < css.length := (List.getElem?_eq_some_iff.1 hj).1
  rw [List.length_append, flat_len h.five]
  omega
theorem cf58 (args : Array Value) (w : World) : (callFunc 58 args).run Try.prog w = .ok (.enter 58 args) w := by go_simp
theorem cf35 (args : Array Value) (w : World) : (callFunc 35 args).run Try.prog w = .ok (.enter 35 args) w := by go_simp
theorem cf34 (args : Array Value) (w : World) : (callFunc 34 args).run Try.prog w = .ok (.enter 34 args) w := by go_simp
theorem St.oldB {w0 w : World} {H : List (Nat × Obj)} (hs : St w0 [] H w) {g : Nat} {o : Obj} (h : w0.heap[g]? = some o) : w.heap[g]? = some o := by
  rw [hs.frame g (Array.getElem?_eq_some_iff.1 h).1 (by simp)]; exact h
section
variable {P : Program} {ops : Array Oper} {Pw : World → Prop} {last : Nat} {R : Act → World → Prop} {i : Nat} {o : Oper} {rest : List Oper} {a a' : Act} {v : Value}
theorem wp_region_tailV {id : Nat} {w : World} {Q : Exit → Act → World → Prop} (last : Nat) (Pw : World → Prop) (hm : P.follows .mixedOrders = true) (hc : linCheck ops = true)
    (ha : ((List.range last).all (fun i => anc ops i last) && decide (ops.size = last + 1)) = true) (h0 : Pw w.drew) (h : LinU P ops Pw last Pw (fun a w => Q .normal a w) 0 ops.toList a) : (Code.region id ops true).wp P Q a w := wp_region_tailU last Pw Pw hm hc ha h0 h
theorem LinU.fin (hw : Region.wanted o (yielded ops a.tmps) = true) (h : ∀ W, Pw W → (execOp a.eval o).run P W = .ok (.value v) W) (ha : a.put o.dst v = a') (hr : LinU P ops Pw last Pw R (i + 1) rest a') : LinU P ops Pw last Pw R i (o :: rest) a :=
  ⟨v, fun W hW => RunsTo.val hw (h W hW) (by split <;> exact hW), ha ▸ hr⟩
end

set_option maxHeartbeats 2000000 in
set_option maxRecDepth 4000 in
theorem same_any {N : Nat} (hN : N ≤ 8192) {k : Tr} (hf : Few N k) : ∀ {F G : List (Nat × Obj)} {cs ds : List Value} {w0 : World}, Rep F cs k → Rep G ds k → Kn w0 F → Kn w0 G →
    Calls Try.prog 58 #[.agg cs.toArray, .agg ds.toArray, .bool true] w0 fun e w' => e = .returned (.bool true) ∧ St w0 [] [] w' := by
  induction hf with
  | mk l t ks hl hk ih =>
  intro F G cs ds w0 hc hd hF hG
  obtain ⟨v, rfl, hv⟩ := hc.inv
  obtain ⟨u, rfl, hu⟩ := hd.inv
  obtain ⟨A, ca, rfl⟩ := hv.val
  obtain ⟨B, cb, rfl⟩ := hu.val
  have hs := St.nothing w0
  clear hc hd
  replace ih := hid ih
  replace hk := hid hk
  replace hF := hid hF
  replace hG := hid hG
  replace hv := hid hv
  replace hu := hid hu
  go_enter Try.func58, Try.ntmps58
  go_upto_region 1 with (first
    | ((with_reducible refine gd_bx ?_); refine wl_of rfl (hs.bxa (l := ncell l t (.slice A ks.length ca)) (by first | exact ev rfl | rfl) ?_); intro b3 w hb3 hs)
    | ((with_reducible refine gd_bx ?_); refine wl_of rfl (hs.bxa (l := ncell l t (.slice B ks.length cb)) (by first | exact ev rfl | rfl) ?_); intro b4 w hb4 hs))
  have f30 : w.cell? ⟨b3, 0, none⟩ = some (.bool l) := row_cell (hs.at 1 rfl) 0
  have f31 : w.cell? ⟨b3, 1, none⟩ = some (.int .i64 t.kind) := row_cell (hs.at 1 rfl) 1
  have f32 : w.cell? ⟨b3, 2, none⟩ = some (str t.text) := row_cell (hs.at 1 rfl) 2
  have f33 : w.cell? ⟨b3, 3, none⟩ = some (.int .i64 t.at_) := row_cell (hs.at 1 rfl) 3
  have f34 : w.cell? ⟨b3, 4, none⟩ = some (.slice A ks.length ca) := row_cell (hs.at 1 rfl) 4
  have f40 : w.cell? ⟨b4, 0, none⟩ = some (.bool l) := row_cell (hs.at 0 rfl) 0
  have f41 : w.cell? ⟨b4, 1, none⟩ = some (.int .i64 t.kind) := row_cell (hs.at 0 rfl) 1
  have f42 : w.cell? ⟨b4, 2, none⟩ = some (str t.text) := row_cell (hs.at 0 rfl) 2
  have f43 : w.cell? ⟨b4, 3, none⟩ = some (.int .i64 t.at_) := row_cell (hs.at 0 rfl) 3
  have f44 : w.cell? ⟨b4, 4, none⟩ = some (.slice B ks.length cb) := row_cell (hs.at 0 rfl) 4
  unfold str at f32 f42
  replace hs := hid hs
  go_wp2_with fail
  replace hs := hs.out
  clear f30 f31 f32 f33 f34 f40 f41 f42 f43 f44
  have hb1 : b4 ≠ b3 := by
    have := hs.has.nodup
    simpa using this
  go_loopg [7] ks.length (fun g iv wr => ∃ j : Nat, iv = .int .i64 j ∧ j ≤ ks.length ∧ g = ks.length - j ∧ St w0 [] [(b4, row 76 (ncell l t (.slice B ks.length cb))), (b3, row 76 (ncell l t (.slice A ks.length ca)))] wr)
  case atStart => exact ⟨0, rfl, Nat.zero_le _, rfl, hs⟩
  case round =>
    clear hs
    obtain ⟨j, rfl, hj, rfl, hs⟩ := hrel
    by_cases hlt : j < ks.length
    · obtain ⟨gA, css, junk, rfl, hmA, hrA⟩ := hv.out.head (by omega)
      obtain ⟨gB, dss, kunk, rfl, hmB, hrB⟩ := hu.out.head (by omega)
      obtain ⟨cs, k, hcj, hkj, hc5, hrc⟩ := hrA.get hlt
      obtain ⟨ds, k', hdj, hkj', hd5, hrd⟩ := hrB.get hlt
      obtain rfl : k' = k := Option.some.inj (hkj'.symm.trans hkj)
      have qj : decide (j < ks.length) = true := by simpa using hlt
      have hkA := hF.out _ hmA
      have hkB := hG.out _ hmB
      have hlA := hrA.ld hcj junk
      have hlB := hrB.ld hdj kunk
      have hrec : ∀ W, St w0 [] [(b4, row 76 (ncell l t (.slice (some ⟨gB, 0, none⟩) ks.length cb))), (b3, row 76 (ncell l t (.slice (some ⟨gA, 0, none⟩) ks.length ca)))] W → Calls Try.prog 58 #[Value.agg cs.toArray, Value.agg ds.toArray, Value.bool true] W fun e w' => e = Ending.returned (Value.bool true) ∧ St w0 [] [(b4, row 76 (ncell l t (.slice (some ⟨gB, 0, none⟩) ks.length cb))), (b3, row 76 (ncell l t (.slice (some ⟨gA, 0, none⟩) ks.length ca)))] w' := by
        intro W hW
        refine (ih.out _ (List.mem_of_getElem? hkj) hrc hrd (hF.out.old hW) (hG.out.old hW)).mono ?_
        rintro e w' ⟨he, h2⟩
        refine ⟨he, ?_⟩
        have h3 := hW.plus h2
        rw [List.append_nil] at h3; exact h3
      replace hkA := hid hkA
      replace hkB := hid hkB
      replace hlA := hid hlA
      replace hlB := hid hlB
      replace hrec := hid hrec
      clear hmA hmB hcj hkj hdj hkj' hrA hrB hrc hrd
      go_wp2_with (first
        | ((with_reducible refine gd_ld ?_); first | refine wl_of rfl (hs.ld 0 rfl rfl (sc_of rfl) rfl ?_) | refine wl_of rfl (hs.ld 1 rfl rfl (sc_of rfl) rfl ?_)))
      refine wp_region_tailV 12 (fun W => St w0 [] [(b4, row 76 (ncell l t (.slice (some ⟨gB, 0, none⟩) ks.length cb))), (b3, row 76 (ncell l t (.slice (some ⟨gA, 0, none⟩) ks.length ca)))] W) follows (by kernel_rfl) (by kernel_rfl) hs.drew ?_
      refine LinU.pure rfl (by decide) (ex_fieldAddr fa76_2 (ev rfl)) (pu rfl (by simp only [List.set_cons_succ, List.set_cons_zero]; rfl)) ?_
      refine LinU.rd rfl (by decide) (fun W hW => ex_ld_s (ev rfl) sc67 (row_cell (hW.at 1 rfl) 4)) (pu rfl (by simp only [List.set_cons_succ, List.set_cons_zero]; rfl)) ?_
      refine LinU.pure rfl (by decide) (ex_move (ev rfl)) (pu rfl (by simp only [List.set_cons_succ, List.set_cons_zero]; rfl)) ?_
      refine LinU.pure rfl (by decide) (ex_indexAddr st67 (ev rfl) (ev rfl) hlt) (pu rfl (by simp only [List.set_cons_succ, List.set_cons_zero]; rfl)) ?_
      refine LinU.rd rfl (by decide) (fun W hW => ex_ld_row (vs := cs) (ev rfl) ag76 (hW.oldB hkA.out) hlA.out.2 hlA.out.1) (pu rfl (by simp only [List.set_cons_succ, List.set_cons_zero]; rfl)) ?_
      refine LinU.pure rfl (by decide) (ex_fieldAddr fa76_2 (ev rfl)) (pu rfl (by simp only [List.set_cons_succ, List.set_cons_zero]; rfl)) ?_
      refine LinU.rd rfl (by decide) (fun W hW => ex_ld_s (ev rfl) sc67 (row_cell (hW.at 0 rfl) 4)) (pu rfl (by simp only [List.set_cons_succ, List.set_cons_zero]; rfl)) ?_
      refine LinU.pure rfl (by decide) (ex_move (ev rfl)) (pu rfl (by simp only [List.set_cons_succ, List.set_cons_zero]; rfl)) ?_
      refine LinU.pure rfl (by decide) (ex_indexAddr st67 (ev rfl) (ev rfl) hlt) (pu rfl (by simp only [List.set_cons_succ, List.set_cons_zero]; rfl)) ?_
      refine LinU.rd rfl (by decide) (fun W hW => ex_ld_row (vs := ds) (ev rfl) ag76 (hW.oldB hkB.out) hlB.out.2 hlB.out.1) (pu rfl (by simp only [List.set_cons_succ, List.set_cons_zero]; rfl)) ?_
      refine LinU.pure rfl (by decide) (ex_move (ev rfl)) (pu rfl (by simp only [List.set_cons_succ, List.set_cons_zero]; rfl)) ?_
      refine LinU.mid rfl (by decide) (fun W => ex_call (vs := [.agg cs.toArray, .agg ds.toArray, .bool true]) rfl rfl (cf58 _ _)) (fun W hW => hrec.out W hW) (pu rfl (by simp only [List.set_cons_succ, List.set_cons_zero]; rfl)) ?_
      refine LinU.fin rfl (fun W hW => ex_not (ev rfl) W) (pu rfl (by simp only [List.set_cons_succ, List.set_cons_zero]; rfl)) ?_
      refine LinU.done ?_
      intro w hs
      rw [show (!true) = false from rfl]
      go_wp2_with fail
      go_roundg (ks.length - (j + 1))
      case measure => omega
      case rel => exact ⟨j + 1, by go_num, hlt, rfl, hs⟩
    · have qj : decide (j < ks.length) = false := by simpa using hlt
      go_wp2_with (first
        | ((with_reducible refine gd_ld ?_); first | refine wl_of rfl (hs.ld 0 rfl rfl (sc_of rfl) rfl ?_) | refine wl_of rfl (hs.ld 1 rfl rfl (sc_of rfl) rfl ?_)))
      go_ret
      exact ⟨rfl, hs.void⟩

set_option maxHeartbeats 2000000 in
set_option maxRecDepth 4000 in
theorem same8 {N : Nat} (hN : N ≤ 8192) {ks : List Tr} (hl : ks.length ≤ N) (hf : ∀ k ∈ ks, Few N k) {F G : List (Nat × Obj)} {va vb : Value} {w0 : World} (hv : RowR F va ks) (hu : RowR G vb ks) (hF : Kn w0 F) (hG : Kn w0 G) :
    Calls Try.prog 34 #[va, vb, .bool true] w0 fun e w' => e = .returned (.bool true) ∧ St w0 [] [] w' := by
  obtain ⟨A, ca, rfl⟩ := hv.val
  obtain ⟨B, cb, rfl⟩ := hu.val
  have hs := St.nothing w0
  have hrec0 := fun k hk => @same_any N hN k (hf k hk)
  replace hrec0 := hid hrec0
  replace hf := hid hf
  replace hF := hid hF
  replace hG := hid hG
  replace hv := hid hv
  replace hu := hid hu
  replace hs := hid hs
  go_enter Try.func34, Try.ntmps34
  go_wp2_with fail
  replace hs := hs.out
  go_loopg [15] ks.length (fun g iv wr => ∃ j : Nat, iv = .int .i64 j ∧ j ≤ ks.length ∧ g = ks.length - j ∧ St w0 [] [] wr)
  case atStart => exact ⟨0, rfl, Nat.zero_le _, rfl, hs⟩
  case round =>
    clear hs
    obtain ⟨j, rfl, hj, rfl, hs⟩ := hrel
    by_cases hlt : j < ks.length
    · obtain ⟨gA, css, junk, rfl, hmA, hrA⟩ := hv.out.head (by omega)
      obtain ⟨gB, dss, kunk, rfl, hmB, hrB⟩ := hu.out.head (by omega)
      obtain ⟨cs, k, hcj, hkj, hc5, hrc⟩ := hrA.get hlt
      obtain ⟨ds, k', hdj, hkj', hd5, hrd⟩ := hrB.get hlt
      obtain rfl : k' = k := Option.some.inj (hkj'.symm.trans hkj)
      have qj : decide (j < ks.length) = true := by simpa using hlt
      have hkA := hF.out _ hmA
      have hkB := hG.out _ hmB
      have hlA := hrA.ld hcj junk
      have hlB := hrB.ld hdj kunk
      have hrec : ∀ W, St w0 [] [] W → Calls Try.prog 58 #[Value.agg cs.toArray, Value.agg ds.toArray, Value.bool true] W fun e w' => e = Ending.returned (Value.bool true) ∧ St w0 [] [] w' := by
        intro W hW
        refine (hrec0.out _ (List.mem_of_getElem? hkj) hrc hrd (hF.out.old hW) (hG.out.old hW)).mono ?_
        rintro e w' ⟨he, h2⟩
        exact ⟨he, hW.plus h2⟩
      replace hkA := hid hkA
      replace hkB := hid hkB
      replace hlA := hid hlA
      replace hlB := hid hlB
      replace hrec := hid hrec
      clear hmA hmB hcj hkj hdj hkj' hrA hrB hrc hrd
      go_wp2_with fail
      refine wp_region_tailV 10 (fun W => St w0 [] [] W) follows (by kernel_rfl) (by kernel_rfl) hs.drew ?_
      refine LinU.pure rfl (by decide) (ex_move (ev rfl)) (pu rfl (by simp only [List.set_cons_succ, List.set_cons_zero]; rfl)) ?_
      refine LinU.pure rfl (by decide) (ex_move (ev rfl)) (pu rfl (by simp only [List.set_cons_succ, List.set_cons_zero]; rfl)) ?_
      refine LinU.pure rfl (by decide) (ex_indexAddr st67 (ev rfl) (ev rfl) hlt) (pu rfl (by simp only [List.set_cons_succ, List.set_cons_zero]; rfl)) ?_
      refine LinU.rd rfl (by decide) (fun W hW => ex_ld_row (vs := cs) (ev rfl) ag76 (hW.oldB hkA.out) hlA.out.2 hlA.out.1) (pu rfl (by simp only [List.set_cons_succ, List.set_cons_zero]; rfl)) ?_
      refine LinU.pure rfl (by decide) (ex_move (ev rfl)) (pu rfl (by simp only [List.set_cons_succ, List.set_cons_zero]; rfl)) ?_
      refine LinU.pure rfl (by decide) (ex_move (ev rfl)) (pu rfl (by simp only [List.set_cons_succ, List.set_cons_zero]; rfl)) ?_
      refine LinU.pure rfl (by decide) (ex_indexAddr st67 (ev rfl) (ev rfl) hlt) (pu rfl (by simp only [List.set_cons_succ, List.set_cons_zero]; rfl)) ?_
      refine LinU.rd rfl (by decide) (fun W hW => ex_ld_row (vs := ds) (ev rfl) ag76 (hW.oldB hkB.out) hlB.out.2 hlB.out.1) (pu rfl (by simp only [List.set_cons_succ, List.set_cons_zero]; rfl)) ?_
      refine LinU.pure rfl (by decide) (ex_move (ev rfl)) (pu rfl (by simp only [List.set_cons_succ, List.set_cons_zero]; rfl)) ?_
      refine LinU.mid rfl (by decide) (fun W => ex_call (vs := [.agg cs.toArray, .agg ds.toArray, .bool true]) rfl rfl (cf58 _ _)) (fun W hW => hrec.out W hW) (pu rfl (by simp only [List.set_cons_succ, List.set_cons_zero]; rfl)) ?_
      refine LinU.fin rfl (fun W hW => ex_not (ev rfl) W) (pu rfl (by simp only [List.set_cons_succ, List.set_cons_zero]; rfl)) ?_
      refine LinU.done ?_
      intro w hs
      rw [show (!true) = false from rfl]
      go_wp2_with fail
      go_roundg (ks.length - (j + 1))
      case measure => omega
      case rel => exact ⟨j + 1, by go_num, hlt, rfl, hs⟩
    · have qj : decide (j < ks.length) = false := by simpa using hlt
      go_wp2_with fail
      go_ret
      exact ⟨rfl, hs⟩

/-- what the reader gives is small -/
theorem goS_few {N : Nat} : ∀ (ts : List Tok) (S : List Frm) (x : List Tr), goS S ts = .ok x → (∀ f ∈ S, f.2.length + ts.length ≤ N ∧ ∀ k ∈ f.2, Few N k) → x.length ≤ N ∧ ∀ k ∈ x, Few N k
  | [], [], x, h, hS => by cases h; simp
  | [], [(t0, ks)], x, h, hS => by
    simp only [goS] at h; cases h
    have := hS _ (List.mem_singleton.2 rfl)
    simpa using this
  | [], (t, _) :: _ :: _, x, h, hS => by simp [goS] at h
  | t :: ts, [], x, h, hS => by
    rw [goS.eq_def] at h; simp only at h; cases h; simp
  | t :: ts, (t0, ks) :: rest, x, h, hS => by
    have h0 := hS (t0, ks) (by simp)
    simp only [List.length_cons] at h0
    by_cases h1 : t.kind = 1
    · rw [goS_open h1] at h
      split at h
      · cases h
      · refine goS_few ts _ x h ?_
        intro f hf
        rcases List.mem_cons.1 hf with rfl | hf
        · refine ⟨?_, by simp⟩
          simp only [List.length_nil]; omega
        · have := hS f hf
          simp only [List.length_cons] at this
          exact ⟨by omega, this.2⟩
    · by_cases h2 : t.kind = 2
      · cases rest with
        | nil => rw [goS_close0 h2] at h; cases h
        | cons f r =>
          obtain ⟨t1, k1⟩ := f
          rw [goS_close h2] at h
          refine goS_few ts _ x h ?_
          intro f hf
          rcases List.mem_cons.1 hf with rfl | hf
          · have h3 := hS (t1, k1) (by simp)
            simp only [List.length_cons] at h3
            refine ⟨by simp only [List.length_append, List.length_singleton]; omega, ?_⟩
            intro k hk
            rcases List.mem_append.1 hk with hk | hk
            · exact h3.2 k hk
            · rw [List.mem_singleton.1 hk]; exact .mk true t0 ks (by omega) h0.2
          · have := hS f (by simp [hf])
            simp only [List.length_cons] at this
            exact ⟨by omega, this.2⟩
      · rw [goS_leaf h1 h2] at h
        refine goS_few ts _ x h ?_
        intro f hf
        rcases List.mem_cons.1 hf with rfl | hf
        · refine ⟨by simp only [List.length_append, List.length_singleton]; omega, ?_⟩
          intro k hk
          rcases List.mem_append.1 hk with hk | hk
          · exact h0.2 k hk
          · rw [List.mem_singleton.1 hk]; exact .mk false t [] (Nat.zero_le _) (by simp)
        · have := hS f (by simp [hf])
          simp only [List.length_cons] at this
          exact ⟨by omega, this.2⟩
theorem readS_few {ts : List Tok} {x : List Tr} (h : readS ts = .ok x) : x.length ≤ ts.length ∧ ∀ k ∈ x, Few ts.length k :=
  goS_few ts _ x h (by simp)
end Go.Proofs.Ytclingkhdmhhoaa

/- Chapter 8: the reader's stack in memory; small steps over trees' cells. No condition. -/
import Derived.Test.YtclingkhdmhhoaaSxA
import Derived.Test.YtclingkhdmhhoaaLxV
namespace Go.Proofs.Ytclingkhdmhhoaa
open Go.RowKit
set_option linter.unusedSimpArgs false
set_option linter.unusedVariables false

/-- an open list: the token that opened it, its kids so far, where they lie -/
structure Nd where
  tok : Tok
  ks : List Tr
  v : Value
  css : List (List Value)
  C : List (Nat × Obj)
def Nd.cells (n : Nd) : List Value := ncell true n.tok n.v
structure Nd.Ok (F : List (Nat × Obj)) (n : Nd) : Prop where
  sl : Sl 76 5 n.v n.ks.length n.css.flatten n.C
  reps : Reps F n.css n.ks
def nblk (S : List Nd) : List (Nat × Obj) := (S.map Nd.C).flatten
def ncells (S : List Nd) : List Value := (S.reverse.map Nd.cells).flatten
def frs (S : List Nd) : List Frm := S.map fun n => (n.tok, n.ks)
theorem Nd.cells_len (n : Nd) : n.cells.length = 5 := rfl
theorem ncells_cons (x : Nd) (S : List Nd) : ncells (x :: S) = ncells S ++ x.cells := by simp [ncells]
theorem ncells_len : ∀ S : List Nd, (ncells S).length = S.length * 5
  | [] => rfl
  | x :: S => by rw [ncells_cons, List.length_append, ncells_len S, x.cells_len, List.length_cons]; omega
theorem nblk_cons (x : Nd) (S : List Nd) : nblk (x :: S) = x.C ++ nblk S := rfl
theorem ncells_cut (x : Nd) (S : List Nd) (junk : List Value) {o n : Nat} (h : o + n ≤ 5) : cut (ncells (x :: S) ++ junk) (S.length * 5 + o) n = cut x.cells o n := by
  unfold cut
  rw [ncells_cons, List.append_assoc, ← ncells_len S, List.drop_length_add_append, List.drop_append_of_le_length (by rw [x.cells_len]; omega), List.take_append_of_le_length (by rw [List.length_drop, x.cells_len]; omega)]
theorem ncells_cut5 (x : Nd) (S : List Nd) (junk : List Value) : cut (ncells (x :: S) ++ junk) (S.length * 5) 5 = x.cells := by
  have := ncells_cut x S junk (o := 0) (n := 5) (by omega)
  simpa [cut, Nd.cells, ncell] using this
theorem ncells_v (x : Nd) (S : List Nd) (junk : List Value) : (ncells (x :: S) ++ junk)[S.length * 5 + 4]? = some x.v := by
  have := ncells_cut x S junk (o := 4) (n := 1) (by omega)
  have h2 := congrArg (fun l : List Value => l[0]?) this
  simpa [cut, List.getElem?_take, Nd.cells, ncell] using h2
theorem ncells_set (x : Nd) (S : List Nd) (junk : List Value) (v : Value) (ks : List Tr) (css : List (List Value)) (C : List (Nat × Obj)) : (ncells (x :: S) ++ junk).set (S.length * 5 + 4) v = ncells (⟨x.tok, ks, v, css, C⟩ :: S) ++ junk := by
  rw [ncells_cons, ncells_cons, List.append_assoc, List.append_assoc, List.set_append_right _ _ (by rw [ncells_len]; omega), ncells_len]
  congr 1
  rw [show S.length * 5 + 4 - S.length * 5 = 4 by omega]
  rfl
theorem frs_cons (x : Nd) (S : List Nd) : frs (x :: S) = (x.tok, x.ks) :: frs S := rfl
theorem frs_len (S : List Nd) : (frs S).length = S.length := by simp [frs]
theorem Nd.Ok.mono {F F' : List (Nat × Obj)} (hF : ∀ p ∈ F, p ∈ F') {n : Nd} (h : n.Ok F) : n.Ok F' := ⟨h.sl, h.reps.mono hF⟩
theorem Nd.Ok.tree {F : List (Nat × Obj)} {n : Nd} (h : n.Ok F) : Rep (n.C ++ F) n.cells (.mk true n.tok n.ks) :=
  (h.sl.rowr (h.reps.mono fun p hp => List.mem_append_right _ hp) fun p hp => List.mem_append_left _ hp).tree true n.tok
theorem Nd.Ok.row {F : List (Nat × Obj)} {n : Nd} (h : n.Ok F) : RowR (n.C ++ F) n.v n.ks :=
  h.sl.rowr (h.reps.mono fun p hp => List.mem_append_right _ hp) fun p hp => List.mem_append_left _ hp
theorem flatten_snoc (css : List (List Value)) (cs : List Value) : (css ++ [cs]).flatten = css.flatten ++ cs := by simp

/-- a slice with an element is a block's head -/
theorem Sl.head {e size n : Nat} {v : Value} {xs : List Value} {C : List (Nat × Obj)} (h : Sl e size v n xs C) (hn : 0 < n) :
    ∃ g cap junk, v = .slice (some ⟨g, 0, none⟩) n cap ∧ C = [(g, row e (xs ++ junk))] ∧ (xs ++ junk).length = cap * size ∧ cap ≤ maxLen ∧ n ≤ cap := by
  rcases h.2 with ⟨_, h0, _⟩ | h
  · omega
  · exact h
theorem ncell_len (l : Bool) (t : Tok) (v : Value) : (ncell l t v).length = 5 := rfl
theorem leaf_rep (F : List (Nat × Obj)) (t : Tok) : Rep F (ncell false t (.slice none 0 0)) (.mk false t []) := .nil false t
def zcell : List Value := [.bool false, .int .i64 0, .string ⟨#[]⟩, .int .i64 0, .slice none 0 0]

theorem run_build76r (w : World) : (Instr.build 76 #[(0, .bool true)]).run Try.prog w = .ok (.agg (ncell true zTok (.slice none 0 0)).toArray) w := by
  unfold ncell zTok str; go_simp
theorem run_build76o (t : Tok) (w : World) : (Instr.build 76 #[(0, .bool true), (1, .agg t.cells.toArray)]).run Try.prog w = .ok (.agg (ncell true t (.slice none 0 0)).toArray) w := by
  obtain ⟨k, x, a⟩ := t
  unfold ncell Tok.cells str; go_simp
theorem run_build76l (t : Tok) (w : World) : (Instr.build 76 #[(1, .agg t.cells.toArray)]).run Try.prog w = .ok (.agg (ncell false t (.slice none 0 0)).toArray) w := by
  obtain ⟨k, x, a⟩ := t
  unfold ncell Tok.cells str; go_simp
theorem run_build76k (t : Tok) (A : Option Addr) (n c : Nat) (w : World) : (Instr.build 76 #[(0, .bool true), (1, .agg t.cells.toArray), (2, .slice A n c)]).run Try.prog w = .ok (.agg (ncell true t (.slice A n c)).toArray) w := by
  obtain ⟨k, x, a⟩ := t
  unfold ncell Tok.cells str; go_simp
theorem run_sl67 {w : World} {A : Option Addr} {n m c : Nat} (h1 : m ≤ n) (h2 : n ≤ c) : (Instr.sliceAt 67 (.slice A n c) none (some (.int .i64 m)) none).run Try.prog w = .ok (.slice A m c) w := by
  have hm : m ≤ c := by omega
  have hz : (sizeOf 76).run Try.prog w = .ok 5 w := run_sizeOf (by kernel_rfl) w
  simp [Instr.sliceAt, Instr.slice, Instr.sliceBounds, Instr.sliceBound, asIntOf, run_underlying Try.underlying67, hz, hm]
  intro hc
  exact addr0 A
theorem ex_len67 {ρ : Operand → Value} {dst : Option Tmp} {t : TypeId} {pos : String} {aft : Array Edge} {g : Option (Nat × Bool)} {x : Operand} {A : Option Addr} {n c : Nat} (hx : ρ x = .slice A n c) (w : World) :
    (execOp ρ ⟨dst, .call { callee := .builtin .len, args := #[x], argTypes := #[67] }, t, pos, aft, g⟩).run Try.prog w = .ok (.value (.int .i64 n)) w := by
  simp [execOp, resolve, invoke, builtin, hx]
  go_simp
section
variable {ρ : Operand → Value} {dst : Option Tmp} {t yt : TypeId} {pos : String} {aft : Array Edge} {g : Option (Nat × Bool)} {x y : Operand}
theorem ex_sb3 {a b : Int} {c : Nat} (hx : ρ x = .int .i64 a) (hy : ρ y = .int .i64 b) (hc : a - b = c) (hm : c ≤ 1073741824) (w : World) : (execOp ρ ⟨dst, .binOp .sub 3 x y yt, t, pos, aft, g⟩).run Try.prog w = .ok (.value (.int .i64 c)) w := by
  have e : IntKind.i64.wrap (a - b) = (c : Int) := by rw [IntKind.wrap_i64]; omega
  rw [hc] at e
  refine ex_bin hx hy ?_ ?_
  · go_simp
  · go_simp
end
theorem results32 {w : World} {b : Nat} {ov : Value} {k a : Int} (hb : w.heap[b]? = some (row 46 [.int .i64 k, .int .i64 a])) {tmps : Array Value} (t2 : tmps.getD 2 undef = ov) (t3 : tmps.getD 3 undef = .pointer (some ⟨b, 0, none⟩)) :
    (results Try.f32 tmps).run Try.prog w = .ok (.tuple #[ov, .agg #[.int .i64 k, .int .i64 a]]) w := by
  have l3 := run_ld_row (P := Try.prog) ag46 hb (off := 0) (by simp)
  simp only [cut, List.drop_zero, List.take_succ_cons, List.take_zero] at l3
  rw [Array.getD_eq_getD_getElem?] at t2 t3
  simp [results, Try.f32, t2, t3, asAddr, Sem.run_bind, l3]
theorem results56 {w : World} {b : Nat} {ov : Value} {k a : Int} (hb : w.heap[b]? = some (row 46 [.int .i64 k, .int .i64 a])) {tmps : Array Value} (t2 : tmps.getD 4 undef = ov) (t3 : tmps.getD 5 undef = .pointer (some ⟨b, 0, none⟩)) :
    (results Try.f56 tmps).run Try.prog w = .ok (.tuple #[ov, .agg #[.int .i64 k, .int .i64 a]]) w := by
  have l3 := run_ld_row (P := Try.prog) ag46 hb (off := 0) (by simp)
  simp only [cut, List.drop_zero, List.take_succ_cons, List.take_zero] at l3
  rw [Array.getD_eq_getD_getElem?] at t2 t3
  simp [results, Try.f56, t2, t3, asAddr, Sem.run_bind, l3]

set_option maxHeartbeats 1000000 in
set_option maxRecDepth 4000 in
/-- what is wrong, and where -/
theorem fault_any (k : Int) (t : Tok) (w0 : World) : Calls Try.prog 56 #[.int .i64 k, .agg t.cells.toArray] w0 fun e w' => e = .returned (.tuple #[.slice none 0 0, .agg #[.int .i64 k, .int .i64 t.at_]]) ∧ St w0 [] [] w' := by
  have hs := St.nothing w0
  go_enter Try.func56, Try.ntmps56
  go_wp2_with (first
    | ((with_reducible refine gd_bx ?_); refine wl_of rfl (hs.bxa (l := t.cells) (by first | exact ev rfl | rfl) ?_); intro tb w htb hs)
    | ((with_reducible refine gd_al ?_); refine wl_of rfl (hs.al (zc_of rfl) ?_); intro rb w hrb hs))
  replace hs := hs.drew
  have hs1 : St w0 [] ([(rb, row 46 [.int .i64 k, .int .i64 t.at_]), (tb, row 54 t.cells)]) (setBlk w.drew rb (row 46 [.int .i64 k, .int .i64 t.at_])) := hs.setAt (k := 0) rfl _
  refine wp_region_phases [5] (wsOf [w.drew, setBlk w.drew rb (row 46 [.int .i64 k, .int .i64 t.at_])]) follows (by kernel_rfl) (by kernel_rfl) rfl ?_
  refine LinP.pure rfl rfl (ex_move (ev rfl)) (pu rfl (by simp only [List.set_cons_succ, List.set_cons_zero]; rfl)) ?_
  refine LinP.pure rfl rfl (ex_fieldAddr fa54_2 (ev rfl)) (pu rfl (by simp only [List.set_cons_succ, List.set_cons_zero]; rfl)) ?_
  refine LinP.rd 0 rfl rfl (by kernel_rfl) (by kernel_rfl) (ex_ld_s (v := .int .i64 t.at_) (ev rfl) sc3 (row_cell (hs.at 1 rfl) 2)) (pu rfl (by simp only [List.set_cons_succ, List.set_cons_zero]; rfl)) ?_
  refine LinP.pure rfl rfl (fun w => ex_build rfl (run_build46 w k t.at_)) (pu rfl (by simp only [List.set_cons_succ, List.set_cons_zero]; rfl)) ?_
  refine LinP.pure rfl rfl (ex_assign rfl) (pu rfl (by simp only [List.set_cons_succ, List.set_cons_zero]; rfl)) ?_
  refine LinP.store 0 rfl rfl (by kernel_rfl) (by kernel_rfl) (ex_st_a (off := 0) (ev rfl) (ev rfl) ag46 rfl (hs.at 0 rfl) (Nat.le_of_ble_eq_true rfl) (by simp [Value.oneCell']) rfl) (pu0 rfl) ?_
  refine LinP.done ?_
  go_wp2_with fail
  refine bodyPost_ret (results56 (b := rb) (ov := .slice none 0 0) (k := k) (a := t.at_) (hs1.at 0 rfl) rfl rfl) rfl ?_
  exact ⟨rfl, hs1.void⟩

/-- a kid more: what the append of five cells does -/
theorem kid_append {w0 w : World} {Hd B : List (Nat × Obj)} {gO : Nat} {oo : Obj} {C : List (Nat × Obj)} {v : Value} {n : Nat} {xs : List Value} (ty : TypeId) (hs : St w0 [] (Hd ++ (gO, oo) :: (C ++ B)) w) (hsl : Sl 76 5 v n xs C) (news : List Value) (h5 : news.length = 5)
    (h1 : ∀ u ∈ news, u.oneCell' = true) (hn : n ≤ 16384) :
    ∃ g cap junk w2, (Builtin.append_ #[67, 67] ty #[v, .slice (some ⟨w.heap.size, 0, none⟩) 1 1]).run Try.prog (w.alloc (row 76 news)) = .ok (.slice (some ⟨g, 0, none⟩) (n + 1) cap) w2 ∧
      St w0 [] ((w.heap.size, row 76 news) :: (Hd ++ (gO, oo) :: (g, row 76 (xs ++ news ++ junk)) :: B)) w2 ∧ (xs ++ news ++ junk).length = cap * 5 ∧ cap ≤ maxLen ∧ n + 1 ≤ cap := by
  have h2 := hs.alloc (row 76 news)
  have h3 : St w0 [] (((w.heap.size, row 76 news) :: (Hd ++ [(gO, oo)])) ++ C ++ B) (w.alloc (row 76 news)) := by
    simpa using h2
  obtain ⟨v', C', w2, hr, hs2, hsl2⟩ := run_append_sl (P := Try.prog) (ty := ty) (c := 1) (m := 1) (ad := ⟨w.heap.size, 0, none⟩) (news := news) el67 h3 hsl (by omega) (cells_at (h3.at 0 rfl)) h1 (by unfold maxLen; omega) (by omega)
  obtain ⟨g, cap, junk, rfl, rfl, f1, f2, f3⟩ := hsl2.head (by omega)
  exact ⟨g, cap, junk, w2, hr, by simpa using hs2, f1, f2, f3⟩
/-- the worlds of two stores without order behind two writes -/
def setsOf (W0 W1 W2 wa wb wab : World) (x : Nat) (S : List Nat) : World := match S.length with
  | 0 => W0
  | 1 => W1
  | 2 => W2
  | 3 => if S.contains x then wa else wb
  | _ => wab
theorem zc4 : Zc Try.prog 4 [.bool false] := by unfold Zc; kernel_rfl
theorem splice_mid {xs z news junk : List Value} {off : Nat} (ho : off = xs.length) (hz : z.length = news.length) : splice (xs ++ z ++ junk) off news = xs ++ news ++ junk := by
  subst ho
  unfold splice
  rw [List.append_assoc xs z junk, List.take_left' rfl, List.drop_length_add_append, ← hz, List.drop_left' rfl]

def SPost (w0 : World) (r : Except (Int × Int) (List Tr)) (e : Ending) (w' : World) : Prop := match r with
  | .ok ks => ∃ v F, e = .returned (.tuple #[v, .agg #[.int .i64 0, .int .i64 0]]) ∧ RowR F v ks ∧ St w0 [] F w'
  | .error x => e = .returned (.tuple #[.slice none 0 0, .agg #[.int .i64 x.1, .int .i64 x.2]]) ∧ St w0 [] [] w'
/-- the stack as it lies -/
structure Stk (F : List (Nat × Obj)) (S : List Nd) (cap : Nat) (junk : List Value) : Prop where
  ok : ∀ n ∈ S, n.Ok F
  len : (ncells S ++ junk).length = cap * 5
  capm : cap ≤ maxLen
  le : S.length ≤ cap
  deep : S.length ≤ 1001
def o46 : Obj := row 46 [.int .i64 0, .int .i64 0]
/-- the innermost open list has a kid more -/
theorem Stk.put {F F' : List (Nat × Obj)} (hF : ∀ p ∈ F, p ∈ F') {y : Nd} {r : List Nd} {cap : Nat} {J : List Value} (hok : ∀ n ∈ y :: r, n.Ok F) (hlen : (ncells (y :: r) ++ J).length = cap * 5) (hcm : cap ≤ maxLen) (hle : (y :: r).length ≤ cap) (hd : (y :: r).length ≤ 1001)
    {cs : List Value} {k : Tr} (hk : Rep F' cs k) {g cap' : Nat} {junk' : List Value} (h1 : (y.css.flatten ++ cs ++ junk').length = cap' * 5) (h2 : cap' ≤ maxLen) (h3 : y.ks.length + 1 ≤ cap') :
    Stk F' (⟨y.tok, y.ks ++ [k], .slice (some ⟨g, 0, none⟩) (y.ks.length + 1) cap', y.css ++ [cs], [(g, row 76 (y.css.flatten ++ cs ++ junk'))]⟩ :: r) cap J := by
  have hy := hok y (by simp)
  refine ⟨?_, ?_, hcm, hle, hd⟩
  · intro n hn
    rcases List.mem_cons.1 hn with rfl | hn
    · have hl := hy.reps.flat
      refine ⟨?_, (hy.reps.mono hF).snoc hk⟩
      simp only [List.length_append, List.length_singleton, flatten_snoc]
      exact Sl.made (by rw [List.length_append, hl, hk.five]; omega) h1 h2 h3
    · exact (hok n (by simp [hn])).mono hF
  · rw [← hlen, List.length_append, List.length_append, ncells_len, ncells_len]; rfl
end Go.Proofs.Ytclingkhdmhhoaa

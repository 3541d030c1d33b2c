/- The walks of slices.Backward over writes, and of disk.Read. No condition. -/
import Derived.Test.YtclingkhdmhhoaaRng
namespace Go.Proofs.Ytclingkhdmhhoaa
open Go.RowKit Go.Shelf
set_option linter.unusedSimpArgs false
attribute [local go_sem] Oper.semAt_some

/-- a write, of 64 bytes -/
abbrev W64 := { p : Nat × List UInt8 // p.2.length = 64 ∧ p.1 ≤ 65536 }
def encB (x : Int × W64) : Array Value := #[.int .i64 x.1, .agg (wv x.2.1).toArray]

theorem backward (w : World) (a : Option Addr) (n c : Nat) : Calls Try.prog 59 #[.slice a n c] w fun e w' => e = .returned (.func (.func 84) #[] #[.pointer (some ⟨w.heap.size, 0, none⟩)]) ∧ w' = w.alloc (row 80 [.slice a n c]) := by
  go_enter Try.func59, Try.ntmps59
  go_wp2
  go_ret
  exact ⟨rfl, rfl⟩

set_option maxRecDepth 4000 in
set_option maxHeartbeats 2000000 in
theorem backward1 (n l Bs n₀ : Nat) (a : Option Addr) (cap : Nat) (later : List (Nat × List UInt8)) (h64 : ∀ p ∈ later, p.2.length = 64 ∧ p.1 ≤ 65536) (hlen : later.length ≤ 1073741824) (J Jx : List (Int × W64) → World → Prop)
    (hY : ∀ pre x W, J pre W → pre.length < later.length → YieldAt Fence.wide (n - 1) Try.prog l (encB x) W fun e W' =>
      (e = .returned (.bool true) ∧ J (pre ++ [x]) W' ∧ Below n₀ W W') ∨ (e = .returned (.bool false) ∧ Jx (pre ++ [x]) W'))
    (W : World) (hBs : W.heap[Bs]? = some (row 80 [.slice a later.length cap])) (hBn : Bs < n₀)
    (hrow : later = [] ∨ ∃ g xs, a = some ⟨g, 0, none⟩ ∧ g < n₀ ∧ W.heap[g]? = some (row 85 (wvs later ++ xs))) (h0 : J [] W) :
    CallsIn Fence.wide n Try.prog 84 #[.func (.yield l) #[] #[], .pointer (some ⟨Bs, 0, none⟩)] W fun e W' => (∃ v, e = .returned v) ∧
      ((∃ ys : List (Int × W64), ys.map (·.2.1) = later.reverse ∧ J ys W') ∨ (∃ pre : List (Int × W64), pre.map (·.2.1) <+: later.reverse ∧ Jx pre W')) := by
  refine callsIn_of_wp Try.func84 rfl trivial ?_ rfl
  simp only [Try.ntmps84, List.size_toArray, List.length_cons, List.length_nil, Nat.reduceAdd, Nat.reduceSub, Array.replicate_succ, Array.replicate_zero, List.push_toArray, List.append_toArray, List.nil_append, List.cons_append]
  have hb0 : W.cell? ⟨Bs, 0, none⟩ = some (.slice a later.length cap) := row_cell hBs 0
  gi_wp2
  have hdn : ∀ j, j < later.length → ∃ p, later[j]? = some p ∧ p ∈ later := fun j hj => ⟨later[j], List.getElem?_eq_getElem hj, List.getElem_mem hj⟩
  gi_loopw [3] (fun i wr => ∃ (k : Nat) (z : Int), k ≤ later.length ∧ i = .int .i64 z ∧ z = (k : Int) - 1 ∧ ∃ pre : List (Int × W64), pre.map (·.2.1) = (later.drop k).reverse ∧ J pre wr ∧ Below n₀ W wr)
    (fun i _ => (intOf i + 1).toNat)
  case atStart => 
    exact ⟨later.length, _, Nat.le_refl _, rfl, rfl, [], by simp, h0, Below.refl _ _⟩
  case round =>
    obtain ⟨k, z, hk, rfl, hz, pre, hpre, hJ, hnx⟩ := hrel
    have hbs : wr.heap[Bs]? = some (row 80 [.slice a later.length cap]) := (hnx.block _ hBn).trans hBs
    have hbs0 : wr.cell? ⟨Bs, 0, none⟩ = some (.slice a later.length cap) := row_cell hbs 0
    rcases k with _ | k
    · obtain rfl : z = -1 := by omega
      replace hpre := hid hpre
      clear hdn hY hrow hlen h64 hb0 hBs hk hz
      gi_wp2
      go_end0
      exact ⟨⟨_, rfl⟩, .inl ⟨pre, by simpa using hpre.out, hJ⟩⟩
    · obtain rfl : z = (k : Int) := by omega
      clear hz
      obtain ⟨p, hp, hpm⟩ := hdn k (by omega)
      obtain ⟨g, xs, rfl, hgn, hg⟩ : ∃ g xs, a = some ⟨g, 0, none⟩ ∧ g < n₀ ∧ W.heap[g]? = some (row 85 (wvs later ++ xs)) := by
        rcases hrow with rfl | h
        · simp at hk
        · exact h
      have hg' := (hnx.block _ hgn).trans hg
      have hcells : ∀ x ∈ later.map wv, x.length = 65 := by
        intro x hx
        obtain ⟨q, hq, rfl⟩ := List.mem_map.1 hx
        simp [wv, length_sv, (h64 q hq).1]
      have hcut : cut (wvs later ++ xs) (0 + k * 65) 65 = wv p := by rw [Nat.zero_add]; exact flat_cut hcells (by simp [hp])
      have hfit : 0 + k * 65 + 65 ≤ (wvs later ++ xs).length := by
        have h1 : (wvs later).length = later.length * 65 := by have := flat_len hcells; simpa [wvs] using this
        have h2 : k * 65 + 65 ≤ later.length * 65 := by omega
        simp only [List.length_append]; omega
      have hlt : k < later.length := by omega
      have hdr : (later.drop k).reverse = (later.drop (k + 1)).reverse ++ [p] := by
        rw [List.drop_eq_getElem_cons hlt]
        have : later[k] = p := by rw [List.getElem?_eq_getElem hlt] at hp; exact Option.some.inj hp
        simp [this]
      have hplen : pre.length = later.length - (k + 1) := by have := congrArg List.length hpre; simpa using this
      have hld := run_ld_row (P := Try.prog) (w := wr) (t := 85) (off := 0 + k * 65) ag85 hg' hfit
      rw [hcut] at hld
      obtain ⟨fn, tmps, assign, body, hy, hR⟩ := hY pre ((k : Int), ⟨p, h64 p hpm⟩) wr hJ (by omega)
      dsimp only [encB] at hy
      replace hdr := hid hdr
      replace hpre := hid hpre
      replace hplen := hid hplen
      replace hcut := hid hcut
      replace hld := hid hld
      replace hp := hid hp
      gi_wp2_with (first
        | ((with_reducible refine gdi_ia (ty := 80) ?_); refine wli_of wd_wide rfl nofun (wp_of_run (ex_indexAddr st80 rfl rfl hlt _) ?_))
        | ((with_reducible refine gdi_ld (ty := 85) ?_); refine wli_of wd_wide rfl nofun (wp_of_run (ex_ld rfl hld.out) ?_)))
      refine ⟨nofun, hR.mono ?_⟩
      rintro e W3 (⟨rfl, hJ3, hk3⟩ | ⟨rfl, hJx3⟩)
      · gi_wp2
        go_roundw
        case rel =>
          refine ⟨k, _, by omega, rfl, rfl, pre ++ [((k : Int), ⟨p, h64 p hpm⟩)], ?_, hJ3, hnx.trans hk3⟩
          rw [hdr.out, ← hpre.out]; simp only [List.map_append, List.map_cons, List.map_nil]
        case measure => simp [intOf]
      · gi_wp2
        refine bodyPost_ret (results_none rfl _ _ _) rfl ?_
        refine ⟨⟨_, rfl⟩, .inr ⟨pre ++ [((k : Int), ⟨p, h64 p hpm⟩)], ⟨(later.take k).reverse, ?_⟩, hJx3⟩⟩
        rw [List.map_append, hpre.out, List.map_cons, List.map_nil, ← hdr.out, ← List.reverse_append, List.take_append_drop]

theorem backward_stops (n Bs n₀ : Nat) (a : Option Addr) (cap : Nat) (later : List (Nat × List UInt8)) (h64 : ∀ p ∈ later, p.2.length = 64 ∧ p.1 ≤ 65536) (hlen : later.length ≤ 1073741824) (w : World)
    (hBs : w.heap[Bs]? = some (row 80 [.slice a later.length cap])) (hBn : Bs < n₀) (hn : n₀ ≤ w.heap.size)
    (hrow : later = [] ∨ ∃ g xs, a = some ⟨g, 0, none⟩ ∧ g < n₀ ∧ w.heap[g]? = some (row 85 (wvs later ++ xs))) :
    SeqStopsK Fence.wide n Try.prog 84 #[.pointer (some ⟨Bs, 0, none⟩)] encB (Below n₀) (fun ys : List (Int × W64) => ys.map (·.2.1) = later.reverse) (fun pre => pre.map (·.2.1) <+: later.reverse) later.length w :=
  fun l J Jx W hW _ _ hY h0 => backward1 n l Bs n₀ a cap later h64 hlen J Jx hY W ((hW.block _ (by omega)).trans hBs) hBn
    (hrow.imp id fun ⟨g, xs, e, hg, hh⟩ => ⟨g, xs, e, hg, (hW.block _ (by omega)).trans hh⟩) h0

def Dk.last (k : Dk) (a : Int) : List UInt8 := ((k.later.reverse.find? (fun p => (p.1 : Int) == a)).map (·.2)).getD (k.lasts[a.toNat]?.getD nought)
def Dk.read (k : Dk) (a : Int) : List UInt8 × Int := if k.there a = true then (k.last a, 0) else (nought, 2)

theorem back_st {w0 w : World} {D : List Nat} {H : List (Nat × Obj)} (hs : St w0 D H w) (a : Option Addr) (n c : Nat) : Calls Try.prog 59 #[.slice a n c] w fun e w' =>
    ∃ b, e = .returned (.func (.func 84) #[] #[.pointer (some ⟨b, 0, none⟩)]) ∧ w0.heap.size ≤ b ∧ St w0 D ((b, row 80 [.slice a n c]) :: H) w' := by
  refine (backward w a n c).mono ?_
  rintro e w' ⟨rfl, rfl⟩
  exact ⟨_, rfl, hs.size, hs.alloc _⟩
theorem last_of (k : Dk) (a : Nat) {pre : List (Int × W64)} {x : Int × W64} (hS : (pre ++ [x]).map (·.2.1) <+: k.later.reverse) (h1 : ∀ y ∈ pre, ¬ (y.2.1.1 : Int) = a) (h2 : (x.2.1.1 : Int) = a) : k.last a = x.2.1.2 := by
  obtain ⟨r, hr⟩ := hS
  have hf : (pre.map (·.2.1)).find? (fun p => ((p.1 : Int) == (a : Int))) = none := by
    rw [List.find?_eq_none]
    intro p hp
    obtain ⟨y, hy, rfl⟩ := List.mem_map.1 hp
    simpa using fun h => h1 y hy (by omega)
  unfold Dk.last
  rw [← hr, List.map_append, List.append_assoc, List.find?_append, hf]
  simp [h2]
theorem last_none (k : Dk) (a : Nat) {ys : List (Int × W64)} (hS : ys.map (·.2.1) = k.later.reverse) (h1 : ∀ y ∈ ys, ¬ (y.2.1.1 : Int) = a) (ha : a < k.lasts.length) : k.last a = k.lasts[a] := by
  have hf : (ys.map (·.2.1)).find? (fun p => ((p.1 : Int) == (a : Int))) = none := by
    rw [List.find?_eq_none]
    intro p hp
    obtain ⟨y, hy, rfl⟩ := List.mem_map.1 hp
    simpa using fun h => h1 y hy (by omega)
  unfold Dk.last
  rw [← hS, hf]
  simp [ha]
theorem run_build38_0 (w : World) : (Instr.build 38 #[]).run Try.prog w = .ok (.agg zsec.toArray) w := by
  go_simp
  rfl
theorem results36 {w : World} {b4 b5 : Nat} {s : List Value} {e : Int} (h4 : w.heap[b4]? = some (row 38 s)) (hs : s.length = 64) (h5 : w.heap[b5]? = some (row 26 [.int .i64 e])) {tmps : Array Value}
    (t4 : tmps.getD 4 undef = .pointer (some ⟨b4, 0, none⟩)) (t5 : tmps.getD 5 undef = .pointer (some ⟨b5, 0, none⟩)) : (results Try.f36 tmps).run Try.prog w = .ok (.tuple #[.agg s.toArray, .int .i64 e]) w := by
  have l4 := run_ld_row (P := Try.prog) (off := 0) ag38 h4 (by omega)
  have l5 := run_ld_s (P := Try.prog) (off := 0) sc26 (row_cell h5 0)
  have e4 : cut s 0 64 = s := by simp [cut, ← hs]
  rw [e4] at l4
  rw [Array.getD_eq_getD_getElem?] at t4 t5
  simp [results, Try.f36, t4, t5, asAddr, Sem.run_bind, l4, l5]

theorem zip2 (p1 p2 : Nat) (v1 v2 : Value) (t : Array Value) : (#[p1, p2].zip #[v1, v2]).foldl (fun t x => t.setIfInBounds x.1 x.2) t = (t.setIfInBounds p1 v1).setIfInBounds p2 v2 := by
  rw [← Array.foldl_toList]; simp
def RdI (N a : Nat) (w0 : World) (D : List Nat) (H : List (Nat × Obj)) (pre : List (Int × W64)) (W : World) : Prop := (∀ x ∈ pre, ¬ (x.2.1.1 : Int) = a) ∧ N ≤ W.heap.size ∧ St w0 D H W
def RdX (a : Nat) (w0 : World) (D : List Nat) (H : List UInt8 → List (Nat × Obj)) (c : Code) (pre : List (Int × W64)) (W : World) : Prop :=
  c = .ret ∧ ∃ pre' x, pre = pre' ++ [x] ∧ (∀ x ∈ pre', ¬ (x.2.1.1 : Int) = a) ∧ (x.2.1.1 : Int) = a ∧ St w0 D (H x.2.1.2) W

set_option maxRecDepth 4000 in
set_option maxHeartbeats 2000000 in
theorem read_any {w0 : World} {d : Nat} {k : Dk} {C : List (Nat × Obj)} (h : Has w0 C) (hd : Disk d k C) (a : Int) :
    Calls Try.prog 36 #[.pointer (some ⟨d, 0, none⟩), .int .i64 a] w0 fun e w' => e = .returned (.tuple #[.agg (sv (k.read a).1).toArray, .int .i64 (k.read a).2]) ∧ St w0 (keys C) C w' := by
  obtain ⟨ok, bl, lv, CL, rfl, hsl⟩ := hd
  have hs := St.start h
  generalize hD : keys ([(d, row 82 [.slice (some ⟨bl, 0, none⟩) k.lasts.length k.lasts.length, lv, .int .i64 k.ops, .int .i64 k.stop]), (bl, row 38 (secs k.lasts))] ++ CL) = D at hs ⊢
  clear h hD
  obtain ⟨la, lc, hlv⟩ : ∃ la lc, lv = .slice la k.later.length lc := by
    rcases hsl.2 with ⟨e, h0, _⟩ | ⟨g, c, j, e, _⟩
    · exact ⟨_, _, by rw [e, h0]⟩
    · exact ⟨_, _, e⟩
  subst hlv
  refine (callsIn_wide (n := 3)).1 (callsIn_of_wp_marks Try.func36 rfl trivial ?_ rfl)
  simp only [Try.ntmps36, List.size_toArray, List.length_cons, List.length_nil, Nat.reduceAdd, Nat.reduceSub, Array.replicate_succ, Array.replicate_zero, List.push_toArray, List.append_toArray, List.nil_append, List.cons_append]
  rw [wpIn_wide]
  cases ht : k.there a with
  | false =>
    have e1 : decide (0 ≤ a ∧ a < k.lasts.length) = false := ht
    have er : k.read a = (nought, 2) := by simp [Dk.read, ht]
    replace er := hid er
    clear ht
    go_wp2_with (first
      | ((with_reducible refine gd_bx ?_); first | (refine wl_of rfl (hs.bxa (by first | exact ev rfl | rfl) ?_); intro b3 w hb3 hs) | (refine wl_of rfl (hs.bx1 (by first | exact ev rfl | exact evc | rfl) (by rfl) ?_); intro b3 w hb3 hs))
      | ((with_reducible refine gd_al (ty := 38) ?_); refine wl_of rfl (hs.al zc38 ?_); intro b4 w hb4 hs)
      | ((with_reducible refine gd_al (ty := 26) ?_); refine wl_of rfl (hs.al zc26 ?_); intro b5 w hb5 hs)
      | ((with_reducible refine gd_ld ?_); first | refine wl_of rfl (hs.ld 2 rfl rfl (sc_of rfl) rfl ?_))
      | (go_at_call 37; refine (there_any (hs.at 3 rfl)).mono ?_; rintro e w' ⟨rfl, rfl⟩; rw [e1])
      | ((with_reducible refine gd_bd (ty := 38) ?_); refine wl_of rfl (wp_of_run (ex_build (run_build38_0 _)) ?_))
      | ((with_reducible refine gd_st (ty := 38) ?_); refine wl_of rfl (hs.sta 1 rfl rfl ag38 rfl length_zsec (fun v hv => by simp [zsec] at hv; subst hv; rfl) (by rw [length_zsec]; decide) (splice_all rfl) ?_); intro w hs)
      | ((with_reducible refine gd_st ?_); first | (refine wl_of rfl (hs.st 0 rfl rfl (sc_of rfl) (by first | exact evc | exact ev rfl | rfl) (by rfl) (Nat.le_of_ble_eq_true rfl) ?_); intro w hs; simp only [List.cons_append, List.nil_append, List.set_cons_succ, List.set_cons_zero] at hs)))
    refine ⟨_, results36 (hs.at 1 rfl) length_zsec (hs.at 0 rfl) rfl rfl, ?_, St.drop (A := [_, _, _]) hs⟩
    rw [er.out, sv_nought]; rfl
  | true =>
    have e1 : decide (0 ≤ a ∧ a < k.lasts.length) = true := ht
    obtain ⟨a, rfl⟩ : ∃ n : Nat, a = n := ⟨a.toNat, by simp at e1; omega⟩
    have ha : a < k.lasts.length := by simpa using e1
    have er : k.read (a : Int) = (k.last a, 0) := by simp [Dk.read, ht]
    have hlen : k.later.length ≤ 1073741824 := by have := ok.len; have := ok.ops; omega
    have h64 : ∀ p ∈ k.later, p.2.length = 64 ∧ p.1 ≤ 65536 := fun p hp => ⟨(ok.wrs p hp).2, by have := (ok.wrs p hp).1; have := ok.most; omega⟩
    have hclC : AllCells CL := by
      rcases hsl.2 with ⟨_, _, rfl⟩ | ⟨g, c, j, _, rfl, _⟩
      · exact allCells_nil
      · exact allCells_row allCells_nil
    replace er := hid er
    replace h64 := hid h64
    replace hclC := hid hclC
    clear ht
    go_wp2_with (first
      | ((with_reducible refine gd_bx ?_); first | (refine wl_of rfl (hs.bxa (by first | exact ev rfl | rfl) ?_); intro b3 w hb3 hs) | (refine wl_of rfl (hs.bx1 (by first | exact ev rfl | exact evc | rfl) (by rfl) ?_); intro b3 w hb3 hs))
      | ((with_reducible refine gd_al (ty := 38) ?_); refine wl_of rfl (hs.al zc38 ?_); intro b4 w hb4 hs)
      | ((with_reducible refine gd_al (ty := 26) ?_); refine wl_of rfl (hs.al zc26 ?_); intro b5 w hb5 hs)
      | ((with_reducible refine gd_ld ?_); first | refine wl_of rfl (hs.ld 2 rfl rfl (sc_of rfl) rfl ?_) | refine wl_of rfl (hs.ld 3 rfl rfl (sc_of rfl) rfl ?_))
      | (go_at_call 37; refine (there_any (hs.at 3 rfl)).mono ?_; rintro e w' ⟨rfl, rfl⟩; rw [e1])
      | (go_at_call 59; refine (back_st hs _ _ _).mono ?_; rintro e w ⟨bb, rfl, hbb, hs⟩))
    have hcells : ∀ x ∈ k.later.map wv, x.length = 65 := ok.wrs.cells
    have hBs := hs.at 0 rfl
    have hcH : AllCells ([(b5, row 26 [Value.int .i64 0]), (b4, row 38 zsec), (b3, row 3 [Value.int .i64 a]), (d, row 82 [.slice (some ⟨bl, 0, none⟩) k.lasts.length k.lasts.length, .slice la k.later.length lc, .int .i64 k.ops, .int .i64 k.stop]), (bl, row 38 (secs k.lasts))] ++ CL) :=
      allCells_row (allCells_row (allCells_row (allCells_row (allCells_row hclC.out))))
    have hrow : k.later = [] ∨ ∃ g xs, la = some ⟨g, 0, none⟩ ∧ g < w.heap.size ∧ w.heap[g]? = some (row 85 (wvs k.later ++ xs)) := by
      rcases hsl.2 with ⟨e, h0, _⟩ | ⟨g, c, j, e, rfl, _⟩
      · exact .inl (List.eq_nil_of_length_eq_zero h0)
      · simp only [Value.slice.injEq] at e
        have := hs.at 6 rfl
        exact .inr ⟨g, j, e.1, (Array.getElem?_eq_some_iff.1 this).1, this⟩
    have hseq := backward_stops (3 - 1) bb w.heap.size la lc k.later h64.out hlen w hBs (Array.getElem?_eq_some_iff.1 hBs).1 (Nat.le_refl _) hrow
    replace hs : St w0 D ([(b5, row 26 [Value.int .i64 0]), (b4, row 38 zsec), (b3, row 3 [Value.int .i64 a]), (d, row 82 [.slice (some ⟨bl, 0, none⟩) k.lasts.length k.lasts.length, .slice la k.later.length lc, .int .i64 k.ops, .int .i64 k.stop]), (bl, row 38 (secs k.lasts))] ++ CL) w := St.drop (A := [_]) hs
    refine wpIn_wide.1 (wpIn_rangeFunc_ownH (n := 3) rfl (by decide) (gf := 84) (lb := #[.pointer (some ⟨bb, 0, none⟩)]) rfl trivial (enters_of Try.func84 (by kernel_rfl) rfl) hseq belowK_t (belowK_b (Nat.le_refl _)) (Below.refl _ _) (fun _ => rfl)
      (RdI w.heap.size a w0 D ([(b5, row 26 [Value.int .i64 0]), (b4, row 38 zsec), (b3, row 3 [Value.int .i64 a]), (d, row 82 [.slice (some ⟨bl, 0, none⟩) k.lasts.length k.lasts.length, .slice la k.later.length lc, .int .i64 k.ops, .int .i64 k.stop]), (bl, row 38 (secs k.lasts))] ++ CL))
      (RdX a w0 D (fun s => [(b5, row 26 [Value.int .i64 0]), (b4, row 38 (sv s)), (b3, row 3 [Value.int .i64 a]), (d, row 82 [.slice (some ⟨bl, 0, none⟩) k.lasts.length k.lasts.length, .slice la k.later.length lc, .int .i64 k.ops, .int .i64 k.stop]), (bl, row 38 (secs k.lasts))] ++ CL))
      ?hI ?hIx ⟨by simp, Nat.le_refl _, hs⟩
      (fun x a' W => ∃ b7, St w0 D ((b7, row 85 (wv x.2.1)) :: ([(b5, row 26 [Value.int .i64 0]), (b4, row 38 zsec), (b3, row 3 [Value.int .i64 a]), (d, row 82 [.slice (some ⟨bl, 0, none⟩) k.lasts.length k.lasts.length, .slice la k.later.length lc, .int .i64 k.ops, .int .i64 k.stop]), (bl, row 38 (secs k.lasts))] ++ CL)) W ∧
        a' = { tmps := #[Value.pointer (some ⟨d, 0, none⟩), Value.int IntKind.i64 a, undef,
              Value.pointer (some ⟨b3, 0, none⟩), Value.pointer (some ⟨b4, 0, none⟩),
              Value.pointer (some ⟨b5, 0, none⟩), undef, Value.pointer (some ⟨b7, 0, none⟩),
              Value.pointer (some ⟨d, 0, none⟩), Value.int IntKind.i64 a, Value.bool true,
              Value.bool false, undef, Value.pointer (some ⟨d, 0, none⟩),
              Value.pointer (some ⟨d, 0, none⟩), Value.pointer (some ⟨d, 1, none⟩),
              Value.slice la k.later.length lc, .func (.func 84) #[] #[.pointer (some ⟨bb, 0, none⟩)], .int .i64 x.1, .agg (wv x.2.1).toArray, undef, undef, undef, undef, undef, undef, undef,
              undef, undef, undef, undef, undef, undef], defers := [] })
      ?hAx ?assign ?body ?done ?stop)
    case hI => exact fun pre A B r hp hg hr => ⟨hp.1, Nat.le_trans hp.2.1 hg.size, hp.2.2.grown hcH hs.size hg hr⟩
    case hIx =>
      rintro c pre A B r ⟨rfl, pre', x, rfl, h1, h2, h3⟩ hg hr
      exact ⟨rfl, pre', x, rfl, h1, h2, h3.grown (allCells_row (allCells_row (allCells_row (allCells_row (allCells_row hclC.out))))) hs.size hg hr⟩
    case hAx =>
      rintro x a' _ A B r ⟨b7, h1, h2⟩ hg hr
      exact ⟨b7, h1.grown (allCells_row hcH) hs.size hg hr, h2⟩
    case assign =>
      rintro l pre x W K ⟨hp, hN, hsW⟩ hK
      have hn := St.nothing W
      obtain ⟨x1, p, hp64⟩ := x
      have hwl : (wv p).length = 65 := by simp [wv, length_sv, hp64.1]
      have hw1 : ∀ v ∈ wv p, v.oneCell' = true := List.forall_mem_cons.2 ⟨rfl, one_sv _⟩
      simp only [encB, zip2, List.setIfInBounds_toArray, List.set_cons_succ, List.set_cons_zero]
      gi_wp2_with (first
        | ((with_reducible refine gdi_al ?_); refine wli_of (wd_round _) rfl nofun (hn.al zc85 ?_); intro b7 w7 hb7 hn)
        | ((with_reducible refine gdi_st ?_); refine wli_of (wd_round _) rfl nofun (hn.sta 0 rfl rfl ag85 rfl hwl hw1 (Nat.le_of_eq rfl) (splice_all (hwl.trans rfl)) ?_); intro w8 hn))
      have hn2 := St.call (A := []) (H := []) (H' := [_]) (B := [(b5, row 26 [Value.int .i64 0]), (b4, row 38 zsec), (b3, row 3 [Value.int .i64 a]), (d, row 82 [.slice (some ⟨bl, 0, none⟩) k.lasts.length k.lasts.length, .slice la k.later.length lc, .int .i64 k.ops, .int .i64 k.stop]), (bl, row 38 (secs k.lasts))] ++ CL) hsW hn
      exact hK _ _ (St.keepsFrom (H := []) hn (Has.nil W) allCells_nil _) (hn.below.mono hN) ⟨hp, Nat.le_trans hN hn.size, St.drop (A := [_]) hn2⟩ ⟨b7, hn2, rfl⟩
    case body =>
      rintro l pre x a' W hle hrec ⟨hp, hN, _⟩ ⟨b7, hsW, rfl⟩ hlen2
      have hn := St.start hsW.has
      obtain ⟨x1, p, hp64⟩ := x
      have hwl : (wv p).length = 65 := by simp [wv, length_sv, hp64.1]
      have hw1 : ∀ v ∈ wv p, v.oneCell' = true := List.forall_mem_cons.2 ⟨rfl, one_sv _⟩
      have hcut2 : cut (wv p) (0 + 1) 64 = sv p.2 := by
        simp only [cut, wv, Nat.zero_add, List.drop_succ_cons, List.drop_zero]
        exact List.take_of_length_le (by rw [length_sv]; omega)
      have hl64 : (sv p.2).length = 64 := by rw [length_sv]; exact hp64.1
      replace hp := hid hp
      replace hrec := hid hrec
      replace hcut2 := hid hcut2
      have hwq : (wv p)[0]? = some (.int .i64 p.1) := rfl
      gi_wp2_with (first
        | ((with_reducible refine gdi_ld (ty := 3) ?_); first | refine wli_of (wd_round _) rfl nofun (hn.ld 0 rfl rfl sc3 rfl ?_) | refine wli_of (wd_round _) rfl nofun (hn.ld 3 rfl rfl sc3 rfl ?_))
        | ((with_reducible refine gdi_ld (ty := 38) ?_); refine wli_of (wd_round _) rfl nofun (hn.lda 0 rfl rfl ag38 (by rw [hwl]; decide) hcut2.out ?_))
        | ((with_reducible refine gdi_st (ty := 38) ?_); refine wli_of (wd_round _) rfl nofun (hn.sta 2 rfl rfl ag38 rfl hl64 (one_sv _) (by rw [length_zsec]; decide) (splice_all (hl64.trans rfl)) ?_); intro w8 hn)
        | ((with_reducible refine gdi_st (ty := 26) ?_); refine wli_of (wd_round _) rfl nofun (hn.st 1 rfl rfl sc26 rfl rfl (Nat.le_of_ble_eq_true rfl) ?_); intro w8 hn))
      · have hx : ((p.1 : Int) == (a : Int)) = true := by assumption
        have hx' : (p.1 : Int) = a := by simpa using hx
        exact ⟨St.keepsFrom hn hsW.has (allCells_row hcH) _, rfl, pre, _, rfl, hp.out, hx', St.drop (A := [_]) (hsW.trans hn)⟩
      · have hx : ((p.1 : Int) == (a : Int)) = false := by assumption
        have hx' : ¬ (p.1 : Int) = a := by simpa using hx
        refine ⟨KeepsFrom.refl _ _, Below.refl _ _, ?_, hN, St.drop (A := [_]) hsW⟩
        intro y hy
        rcases List.mem_append.1 hy with hy | hy
        · exact hp.out y hy
        · rw [List.mem_singleton.1 hy]; exact hx'
    case done =>
      rintro D2 ys W hD2 hS ⟨hp, _, hsW⟩ hK
      replace hsW := hsW.also hcH hK rfl (Nat.le_trans hs.size hD2)
      have hlast := last_none k a hS hp ha
      clear hp hS hs
      go_wp2_with fail
      have hs0 := hsW.drew
      have hd := hs0.at 4 rfl
      have hb3' := hs0.at 3 rfl
      have hbl := hs0.at 5 rfl
      obtain ⟨s, hsk⟩ : ∃ s, k.lasts[a]? = some s := ⟨_, List.getElem?_eq_getElem ha⟩
      have hl64 : s.length = 64 := ok.sec s (List.mem_of_getElem? hsk)
      have hla : k.last a = s := by rw [List.getElem?_eq_getElem ha] at hsk; rw [hlast]; exact Option.some.inj hsk
      have hcut : cut (secs k.lasts) (0 + a * 64) 64 = sv s := by
        have := flat_cut ok.sec.cells (i := a) (x := sv s) (by simp [hsk]) (junk := [])
        rw [List.append_nil] at this
        rw [Nat.zero_add]; exact this
      have hfit : 0 + a * 64 + 64 ≤ (secs k.lasts).length := by
        have e1 : (secs k.lasts).length = k.lasts.length * 64 := by have := flat_len ok.sec.cells; simpa [secs] using this
        have e2 : (a + 1) * 64 ≤ k.lasts.length * 64 := Nat.mul_le_mul_right _ (by omega)
        omega
      have hsl64 : (sv s).length = 64 := by rw [length_sv]; exact hl64
      have hs1 := hs0.setAt (k := 2) rfl (row 38 (sv s))
      have hs2 := hs1.setAt (k := 1) rfl (row 26 [.int .i64 0])
      refine wp_region_phases [7, 8] (wsOf [W.drew, setBlk W.drew b4 (row 38 (sv s)), setBlk (setBlk W.drew b4 (row 38 (sv s))) b5 (row 26 [.int .i64 0])]) follows (by kernel_rfl) (by kernel_rfl) rfl ?_
      refine LinP.pure rfl rfl (ex_move (ev rfl)) (pu rfl (by simp only [List.set_cons_succ, List.set_cons_zero]; rfl)) ?_
      refine LinP.pure rfl rfl (ex_nilCheck (ev rfl)) (pu rfl (by simp only [List.set_cons_succ, List.set_cons_zero]; rfl)) ?_
      refine LinP.pure rfl rfl (ex_fieldAddr fa82_0 (ev rfl)) (pu rfl (by simp only [List.set_cons_succ, List.set_cons_zero]; rfl)) ?_
      refine LinP.rd 0 rfl rfl (by kernel_rfl) (by kernel_rfl) (ex_ld_s (ev rfl) sc33 (row_cell hd 0)) (pu rfl (by simp only [List.set_cons_succ, List.set_cons_zero]; rfl)) ?_
      refine LinP.rd 0 rfl rfl (by kernel_rfl) (by kernel_rfl) (ex_ld_s (ev rfl) sc3 (row_cell hb3' 0)) (pu rfl (by simp only [List.set_cons_succ, List.set_cons_zero]; rfl)) ?_
      refine LinP.pure rfl rfl (ex_indexAddr st33 (ev rfl) (ev rfl) ha) (pu rfl (by simp only [List.set_cons_succ, List.set_cons_zero]; rfl)) ?_
      refine LinP.rd 0 rfl rfl (by kernel_rfl) (by kernel_rfl) (ex_ld_row (ev rfl) ag38 hbl hfit hcut) (pu rfl (by simp only [List.set_cons_succ, List.set_cons_zero]; rfl)) ?_
      refine LinP.store 0 rfl rfl (by kernel_rfl) (by kernel_rfl) (ex_st_a (ev rfl) (ev rfl) ag38 hsl64 (hs0.at 2 rfl) (by rw [length_zsec]; decide) (one_sv _) (splice_all (hsl64.trans rfl))) (pu0 rfl) ?_
      refine LinP.store 1 rfl rfl (by kernel_rfl) (by kernel_rfl) (ex_st_s (off := 0) (v := .int .i64 0) (ev rfl) evc sc26 (hs1.at 1 rfl) (Nat.le_of_ble_eq_true rfl) rfl rfl) (pu0 rfl) ?_
      refine LinP.done ?_
      go_wp2_with fail
      refine ⟨by simp, .inl ⟨_, _, rfl, run_takeDeferred (hs2.at 0 rfl), ?_⟩⟩
      replace hs2 := St.shut (H := [(b5, row 26 [.int .i64 0]), (b4, row 38 (sv s)), (b3, row 3 [.int .i64 a]), (d, row 82 [.slice (some ⟨bl, 0, none⟩) k.lasts.length k.lasts.length, .slice la k.later.length lc, .int .i64 k.ops, .int .i64 k.stop]), (bl, row 38 (secs k.lasts))] ++ CL) hs2 (.deferred none)
      refine ⟨_, results36 (hs2.at 1 rfl) hsl64 (hs2.at 0 rfl) rfl rfl, ?_, St.drop (A := [_, _, _]) hs2⟩
      rw [er.out, hla]
    case stop =>
      rintro D2 c pre W hD2 hS ⟨rfl, pre', x, rfl, h1, h2, hsW⟩ hK
      replace hsW := hsW.also (allCells_row (allCells_row (allCells_row (allCells_row (allCells_row hclC.out))))) hK rfl (Nat.le_trans hs.size hD2)
      have hlast := last_of k a hS h1 h2
      gi_wp2
      refine ⟨by simp, .inl ⟨_, _, rfl, run_takeDeferred hK, ?_⟩⟩
      replace hsW := hsW.shut (.deferred none)
      refine ⟨_, results36 (hsW.at 1 rfl) (by rw [length_sv]; exact x.2.2.1) (hsW.at 0 rfl) rfl rfl, ?_, St.drop (A := [_, _, _]) hsW⟩
      rw [er.out, hlast]
end Go.Proofs.Ytclingkhdmhhoaa

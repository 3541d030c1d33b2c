/- LexJoins: for every input it returns true, and its arguments read as before. No condition. -/
import Derived.Test.YtclingkhdmhhoaaLxJ
import Derived.ProofKit
import Derived.OpenShut
import Derived.Deep.Slices
import Derived.Deep.Grids
import Derived.Below
import Derived.ShutString
import Derived.ChangeOld
namespace Go.Proofs.Ytclingkhdmhhoaa
open Go.ChangeShapes Go.WideShapes Go.ChangeAt Go.RowKit Go.Deep
set_option linter.unusedSimpArgs false
set_option linter.unusedVariables false

theorem list_of7 {α : Type} {R : Nat → α → Prop} : ∀ (n : Nat), (∀ i, i < n → ∃ c, R i c) → ∃ l : List α, l.length = n ∧ ∀ i c, l[i]? = some c → R i c
  | 0, _ => ⟨[], rfl, by simp⟩
  | n + 1, h => by
    obtain ⟨l, hl, hr⟩ := list_of7 n fun i hi => h i (by omega)
    obtain ⟨c, hc⟩ := h n (by omega)
    refine ⟨l ++ [c], by simp [hl], fun i d hd => ?_⟩
    rcases Nat.lt_or_ge i n with hi | hi
    · rw [List.getElem?_append_left (by omega)] at hd; exact hr i d hd
    · rw [List.getElem?_append_right (by omega)] at hd
      have hin : i = n := by
        rcases Nat.eq_or_lt_of_le hi with e | e
        · exact e.symm
        · rw [List.getElem?_eq_none (by simp; omega)] at hd; cases hd
      subst hin
      rw [hl, Nat.sub_self] at hd
      cases hd; exact hc

theorem u8_of7 {n : Int} (h : (Lit.int .u8 n).wf = true) : ∃ b : UInt8, n = (b.toNat : Int) := by
  have h1 : 0 ≤ n ∧ n ≤ 255 := bounds_u8 h
  refine ⟨UInt8.ofNat n.toNat, ?_⟩
  rw [UInt8.toNat_ofNat']; omega

theorem read_u {w0 : World} {v : Value} {l : List UInt8} (hl : l.length ≤ 1048576) (hT : Txt w0 [] v l) :
    Calls Try.prog 23 #[v] w0 fun e w' => ∃ ov k a C, e = .returned (.tuple #[ov, .agg #[.int .i64 k, .int .i64 a]]) ∧ St w0 [] C w' := by
  refine (read_c hT hl).mono fun e w' h => ?_
  cases hr : readC l 0 with
  | ok ts =>
    rw [hr] at h
    obtain ⟨ov, CO, h1, _, h3⟩ := h
    exact ⟨ov, 0, 0, CO, h1, h3⟩
  | error k =>
    rw [hr] at h
    obtain ⟨h1, h3⟩ := h
    exact ⟨_, 10, k, [], h1, h3⟩

set_option maxHeartbeats 1000000 in
set_option maxRecDepth 4000 in
theorem joins_bad1 {w0 : World} {va vb vc : Value} {A B C : List UInt8} (ha : Txt w0 [] va A) (hb : Txt w0 [] vb B) (hc : Txt w0 [] vc C) (hA : A.length ≤ 2000) (hB : B.length ≤ 2000) (hC : C.length ≤ 200) {k : Nat} (hx : readC A 0 = .error k) :
    Calls Try.prog 6 #[va, vb, vc] w0 fun e w' => e = .returned (.bool true) ∧ Below w0.heap.size w0 w' := by
  have hs := St.nothing w0
  have q1 : decide ((2000 : Int) < (A.length : Int)) = false := by simp; omega
  have q2 : decide ((2000 : Int) < (B.length : Int)) = false := by simp; omega
  have q3 : decide ((200 : Int) < (C.length : Int)) = false := by simp; omega
  obtain ⟨pa, ca, rfl, ha'⟩ := id ha
  obtain ⟨pb, cb, rfl, hb'⟩ := id hb
  obtain ⟨pc, cc, rfl, hc'⟩ := id hc
  clear ha' hb' hc'
  replace ha := hid ha
  replace hb := hid hb
  replace hc := hid hc
  replace hx := hid hx
  go_enter Try.func6, Try.ntmps6
  go_upto_region 6 with (first
    | (go_at_call 22; refine (speaks7 _).mono ?_; rintro e w ⟨rfl, hs'⟩; replace hs := hs.plus hs'; clear hs'; simp only [List.append_nil] at hs)
    | (go_at_call 23; refine (read_bad hx.out (by omega) (ha.out.old hs)).mono ?_; rintro e w ⟨rfl, hs'⟩; replace hs := hs.plus hs'; clear hs'; simp only [List.nil_append] at hs)
    | ((with_reducible refine gd_al ?_); refine wl_of rfl (hs.al (zc_of rfl) ?_); intro b8 w hb8 hs)
    | ((with_reducible refine gd_st (ty := 46) ?_); refine wl_of rfl (hs.sta 0 rfl rfl ag46 (vs := [.int .i64 10, .int .i64 k]) (by first | exact ev rfl | rfl) rfl (by simp [Value.oneCell']) (Nat.le_of_eq rfl) (splice_all rfl) ?_); intro w hs; rw [put_none]; simp only [List.set_cons_zero] at hs))
  go_upto_region 7 with (first
    | (go_at_call 23; refine (read_u (by omega) (hb.out.old hs)).mono ?_; rintro e w ⟨vy, ky, ay, CY, rfl, hs'⟩; replace hs := hs.plus hs'; clear hs'; simp only [List.cons_append] at hs)
    | ((with_reducible refine gd_al ?_); refine wl_of rfl (hs.al (zc_of rfl) ?_); intro b10 w hb10 hs)
    | ((with_reducible refine gd_st (ty := 46) ?_); refine wl_of rfl (hs.sta 0 rfl rfl ag46 (vs := [.int .i64 ky, .int .i64 ay]) (by first | exact ev rfl | rfl) rfl (by simp [Value.oneCell']) (Nat.le_of_eq rfl) (splice_all rfl) ?_); intro w hs; rw [put_none]; simp only [List.set_cons_zero] at hs))
  have g8 : w.cell? ⟨b8, 0, none⟩ = some (.int .i64 10) := row_cell (hs.at 1 rfl) 0
  have hs1 := hid hs.below
  clear hs
  go_wp2_with fail
  go_ret
  exact ⟨rfl, hs1.out⟩
set_option maxHeartbeats 1000000 in
set_option maxRecDepth 4000 in
theorem joins_bad2 {w0 : World} {va vb vc : Value} {A B C : List UInt8} (ha : Txt w0 [] va A) (hb : Txt w0 [] vb B) (hc : Txt w0 [] vc C) (hA : A.length ≤ 2000) (hB : B.length ≤ 2000) (hC : C.length ≤ 200) {xs : List Tok} {k : Nat} (hx : readC A 0 = .ok xs) (hy : readC B 0 = .error k) :
    Calls Try.prog 6 #[va, vb, vc] w0 fun e w' => e = .returned (.bool true) ∧ Below w0.heap.size w0 w' := by
  have hs := St.nothing w0
  have q1 : decide ((2000 : Int) < (A.length : Int)) = false := by simp; omega
  have q2 : decide ((2000 : Int) < (B.length : Int)) = false := by simp; omega
  have q3 : decide ((200 : Int) < (C.length : Int)) = false := by simp; omega
  obtain ⟨pa, ca, rfl, ha'⟩ := id ha
  obtain ⟨pb, cb, rfl, hb'⟩ := id hb
  obtain ⟨pc, cc, rfl, hc'⟩ := id hc
  clear ha' hb' hc'
  replace ha := hid ha
  replace hb := hid hb
  replace hc := hid hc
  replace hx := hid hx
  replace hy := hid hy
  go_enter Try.func6, Try.ntmps6
  go_upto_region 6 with (first
    | (go_at_call 22; refine (speaks7 _).mono ?_; rintro e w ⟨rfl, hs'⟩; replace hs := hs.plus hs'; clear hs'; simp only [List.append_nil] at hs)
    | (go_at_call 23; refine (read_ok hx.out (by omega) (ha.out.old hs)).mono ?_; rintro e w ⟨vx, CX, rfl, hslx, hs'⟩; replace hs := hs.plus hs'; clear hs'; simp only [List.nil_append] at hs)
    | ((with_reducible refine gd_al ?_); refine wl_of rfl (hs.al (zc_of rfl) ?_); intro b8 w hb8 hs)
    | ((with_reducible refine gd_st (ty := 46) ?_); refine wl_of rfl (hs.sta 0 rfl rfl ag46 (vs := [.int .i64 0, .int .i64 0]) (by first | exact ev rfl | rfl) rfl (by simp [Value.oneCell']) (Nat.le_of_eq rfl) (splice_all rfl) ?_); intro w hs; rw [put_none]; simp only [List.set_cons_zero] at hs))
  go_upto_region 7 with (first
    | (go_at_call 23; refine (read_bad hy.out (by omega) (hb.out.old hs)).mono ?_; rintro e w ⟨rfl, hs'⟩; replace hs := hs.plus hs'; clear hs'; simp only [List.cons_append] at hs)
    | ((with_reducible refine gd_al ?_); refine wl_of rfl (hs.al (zc_of rfl) ?_); intro b10 w hb10 hs)
    | ((with_reducible refine gd_st (ty := 46) ?_); refine wl_of rfl (hs.sta 0 rfl rfl ag46 (vs := [.int .i64 10, .int .i64 k]) (by first | exact ev rfl | rfl) rfl (by simp [Value.oneCell']) (Nat.le_of_eq rfl) (splice_all rfl) ?_); intro w hs; rw [put_none]; simp only [List.set_cons_zero] at hs))
  have g8 : w.cell? ⟨b8, 0, none⟩ = some (.int .i64 0) := row_cell (hs.at 1 rfl) 0
  have g10 : w.cell? ⟨b10, 0, none⟩ = some (.int .i64 10) := row_cell (hs.at 0 rfl) 0
  have hs1 := hid hs.below
  clear hs
  go_wp2_with fail
  go_ret
  exact ⟨rfl, hs1.out⟩
set_option maxHeartbeats 1000000 in
set_option maxRecDepth 4000 in
theorem joins_long {w0 : World} {pa pb pc : Option Addr} {la lb lc ca cb cc : Nat} (h : 2000 < la ∨ 2000 < lb ∨ 200 < lc) :
    Calls Try.prog 6 #[.slice pa la ca, .slice pb lb cb, .slice pc lc cc] w0 fun e w' => e = .returned (.bool true) ∧ Below w0.heap.size w0 w' := by
  rcases Nat.lt_or_ge 2000 la with h1 | h1
  · have q1 : decide ((2000 : Int) < (la : Int)) = true := by simp; omega
    clear h h1
    go_enter Try.func6, Try.ntmps6
    go_wp2_with (go_at_call 22; refine (speaks7 _).mono ?_; rintro e w ⟨rfl, hs⟩)
    go_ret
    exact ⟨rfl, hs.below⟩
  · have q1 : decide ((2000 : Int) < (la : Int)) = false := by simp; omega
    rcases Nat.lt_or_ge 2000 lb with h2 | h2
    · have q2 : decide ((2000 : Int) < (lb : Int)) = true := by simp; omega
      clear h h1 h2
      go_enter Try.func6, Try.ntmps6
      go_wp2_with (go_at_call 22; refine (speaks7 _).mono ?_; rintro e w ⟨rfl, hs⟩)
      go_ret
      exact ⟨rfl, hs.below⟩
    · have q2 : decide ((2000 : Int) < (lb : Int)) = false := by simp; omega
      have q3 : decide ((200 : Int) < (lc : Int)) = true := by simp; omega
      clear h h1 h2
      go_enter Try.func6, Try.ntmps6
      go_wp2_with (go_at_call 22; refine (speaks7 _).mono ?_; rintro e w ⟨rfl, hs⟩)
      go_ret
      exact ⟨rfl, hs.below⟩
theorem joins_any {w0 : World} {va vb vc : Value} {A B C : List UInt8} (ha : Txt w0 [] va A) (hb : Txt w0 [] vb B) (hc : Txt w0 [] vc C) :
    Calls Try.prog 6 #[va, vb, vc] w0 fun e w' => e = .returned (.bool true) ∧ Below w0.heap.size w0 w' := by
  by_cases h : 2000 < A.length ∨ 2000 < B.length ∨ 200 < C.length
  · obtain ⟨pa, ca, rfl, _⟩ := ha
    obtain ⟨pb, cb, rfl, _⟩ := hb
    obtain ⟨pc, cc, rfl, _⟩ := hc
    exact joins_long h
  · cases hx : readC A 0 with
    | error k => exact joins_bad1 ha hb hc (by omega) (by omega) (by omega) hx
    | ok xs =>
      cases hy : readC B 0 with
      | error k => exact joins_bad2 ha hb hc (by omega) (by omega) (by omega) hx hy
      | ok ys => exact joins_main ha hb hc (by omega) (by omega) (by omega) hx hy

section
variable {H : Type} {enc : TypeId × Value → H} {W : World} {base : Nat} {held : Bool}
theorem txt_of {v : Value} {d : DataW H} {p : List MemPlace} (hv : ∃ a l c, v = .slice a l c) (h : DataW.Trod enc Try.prog W base (fun _ => true) held 43 v d p) : ∃ l, Txt W [] v l := by
  obtain ⟨a, l, c, rfl⟩ := hv
  obtain ⟨fuel, hf⟩ := h
  rcases open_slice Try.underlying43 hf with ⟨hcs, _⟩ | ⟨x, len, cap, m, n, D, Pl, hcs, _, hl, hm, hmm, _, hi⟩
  · simp [Value.cells] at hcs
    obtain ⟨rfl, rfl, rfl⟩ := hcs
    exact ⟨[], none, 0, rfl, Nat.le_refl _, by simp [maxLen], .inl rfl⟩
  · simp [Value.cells] at hcs
    obtain ⟨rfl, rfl, rfl⟩ := hcs
    simp only [if_true] at hmm
    subst hmm
    have c5 : Try.prog.cellsOf 5 = 1 := by kernel_rfl
    rw [c5] at hi
    have hcell : ∀ i, i < l → ∃ b : UInt8, W.cell? (x.add (i * 1)) = some (u8 b) := by
      intro i hil
      obtain ⟨cs', hc, ht⟩ := hi i (by omega)
      obtain ⟨_, hlen, hat⟩ := World.cells?_some hc
      obtain ⟨k, hk, _, hw⟩ := DataW.trod_int Try.underlying5 ht
      obtain ⟨b, rfl⟩ := u8_of7 hw
      refine ⟨b, ?_⟩
      have h0 := hat 0 (by omega)
      rw [hk] at h0
      have e : (x.add (i * 1)).add 0 = x.add (i * 1) := by unfold Addr.add; split <;> simp_all
      rw [e] at h0
      exact h0
    obtain ⟨L, hL, hr⟩ := list_of7 (R := fun i b => W.cell? (x.add (i * 1)) = some (u8 b)) l hcell
    refine ⟨L, some x, _, by rw [hL], by omega, by omega, ?_⟩
    rcases Nat.eq_zero_or_pos l with h0 | h0
    · exact .inl (List.eq_nil_of_length_eq_zero (by omega))
    · obtain ⟨b, o, spot⟩ := x
      obtain ⟨y, hy⟩ := hcell 0 h0
      have hspot : spot = none := by simpa [Addr.add] using World.cell?_spot hy
      subst hspot
      refine .inr ⟨b, o, rfl, ?_, by simp, fun i z hz => ?_⟩
      · have := World.block_lt_of_cell? W _ hy
        simpa [Addr.add] using this
      · have := hr i z hz
        rw [add_none, Nat.mul_one] at this
        exact this
end
theorem own6 : ownKnob Try.prog.godebug = none := by kernel_rfl
theorem laid6 : laidOutB Try.prog = true := by kernel_rfl
set_option maxRecDepth 100000 in
theorem joins_lifted (os : Os) (started : os.Started) (H : Type) (enc : TypeId × Value → H) :
    ReturnsInHanded {} Try.checked os 6 .any (Rows.lexJoinsSpec.pre6 enc Try.prog Try.f6 Rows.lexJoinsRow.domain false) (Rows.lexJoinsSpec.post enc Try.prog Try.f6 false true false false) := by
  refine returnsInHanded_of_change (C := Try.checked) own6 started (by kernel_rfl) Try.func6
    (ChangeSpec.witness6 (enc := enc) (C := Try.checked) false ⟨#[], #[.slice none 0 0, .slice none 0 0, .slice none 0 0], []⟩ 8 (by kernel_rfl) (by kernel_rfl) (by kernel_rfl) (by kernel_rfl)) ?_
  intro W base args ds gs before hval0 hW hcnd _
  have hval : ∀ (j : Nat) t v, Try.f6.params[j]? = some t → args[j]? = some v → Value.okWide Try.prog W .any base t v := hval0
  have hW' := hW
  obtain ⟨p, q, hA0, hV, rfl, hfz, hnd⟩ := hW
  have hA : DataW.TrodAll enc Try.prog W 0 (fun _ => true) true Try.f6.params.toList args.toList ds p := hA0
  rw [Try.params6] at hA hval
  obtain ⟨v0, vs0, d0, ds0, p0, q0, hargs, rfl, rfl, h0, r0⟩ := trodAll_cons hA
  obtain ⟨v1, vs1, d1, ds1, p1, q1, rfl, rfl, rfl, h1, r1⟩ := trodAll_cons r0
  obtain ⟨v2, vs2, d2, ds2, p2, q2, rfl, rfl, rfl, h2, r2⟩ := trodAll_cons r1
  obtain ⟨rfl, rfl, rfl⟩ := trodAll_nil r2
  obtain rfl : args = #[v0, v1, v2] := by cases args; simp_all
  obtain ⟨rfl, rfl⟩ := trodVars_none hV
  obtain ⟨A, c0⟩ := txt_of (okWide_slice Try.underlying43 (hval 0 43 v0 rfl rfl)) h0
  obtain ⟨B, c1⟩ := txt_of (okWide_slice Try.underlying43 (hval 1 43 v1 rfl rfl)) h1
  obtain ⟨C, c2⟩ := txt_of (okWide_slice Try.underlying43 (hval 2 43 v2 rfl rfl)) h2
  have lt0 : ∀ x ∈ p0, x.block < W.heap.size := by obtain ⟨m, hm⟩ := h0; exact DataW.trod_lt m _ _ _ hm
  have lt1 : ∀ x ∈ p1, x.block < W.heap.size := by obtain ⟨m, hm⟩ := h1; exact DataW.trod_lt m _ _ _ hm
  have lt2 : ∀ x ∈ p2, x.block < W.heap.size := by obtain ⟨m, hm⟩ := h2; exact DataW.trod_lt m _ _ _ hm
  clear hA0 hval0
  refine (joins_any c0 c1 c2).mono fun e W' ⟨he, bel⟩ => ?_
  subst he
  exact ⟨_, rfl, _, _, _, [], _, [], hW', trodAll_mk1 (shut_bool Try.underlying4 _), (trodAll_cons_mk (Below.trod laid6 (by kernel_rfl) (of_decide_eq_true (by kernel_rfl)) h0 bel lt0)
    (trodAll_cons_mk (Below.trod laid6 (by kernel_rfl) (of_decide_eq_true (by kernel_rfl)) h1 bel lt1) (trodAll_cons_mk (Below.trod laid6 (by kernel_rfl) (of_decide_eq_true (by kernel_rfl)) h2 bel lt2) trodAll_mk0))), rfl, bel.frame _, fun h => by cases h⟩

theorem joins_holds : Rows.LexJoinsSaid :=
  OpenClaim.holds_of_wide 6 Try.f6 rfl rfl rfl rfl rfl rfl rfl ⟨rfl, rfl, rfl, rfl, rfl⟩ rfl rfl rfl rfl rfl (by kernel_rfl) Try.func6 (by kernel_rfl)
    (of_decide_eq_true (by kernel_rfl)) (by unfold Func.isWrapper; first | (rw [if_pos (by decide +kernel)]; kernel_rfl) | (rw [if_neg (by decide +kernel)]; exact ⟨rfl, rfl⟩))
    (fun os started H enc _ => joins_lifted os started H enc)
end Go.Proofs.Ytclingkhdmhhoaa

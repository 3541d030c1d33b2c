/- SnapLasts: for every input it returns true, and its arguments read as before. No condition. -/
import Derived.Test.YtclingkhdmhhoaaSnR
import Derived.Test.YtclingkhdmhhoaaOpen7
namespace Go.Proofs.Ytclingkhdmhhoaa
open Go.ChangeShapes Go.WideShapes Go.ChangeAt Go.RowKit Go.Deep
set_option linter.unusedSimpArgs false
set_option linter.unusedVariables false

section
variable {H : Type} {enc : TypeId × Value → H} {W : World} {base : Nat} {held : Bool}
theorem bools_of6 {v : Value} {d : DataW H} {p : List MemPlace} (hv : ∃ a l c, v = .slice a l c) (h : DataW.Trod enc Try.prog W base (fun _ => true) held 23 v d p) : ∃ kp, Bools W v kp := by
  obtain ⟨a, l, c, rfl⟩ := hv
  obtain ⟨fuel, hf⟩ := h
  rcases open_bools Try.underlying23 Try.underlying4 (by kernel_rfl) hf with ⟨hcs, _⟩ | ⟨x, len, cap, B, hcs, _, hl, hm, _, hcell⟩
  · simp [Value.cells] at hcs
    obtain ⟨rfl, rfl, rfl⟩ := hcs
    exact ⟨[], none, 0, rfl, .inl rfl⟩
  · simp [Value.cells] at hcs
    obtain ⟨rfl, rfl, rfl⟩ := hcs
    refine ⟨(List.range l).map B, some x, c, by simp, ?_⟩
    rcases Nat.eq_zero_or_pos l with h0 | h0
    · exact .inl (by simp [h0])
    · obtain ⟨b, o, spot⟩ := x
      have hc := hcell 0 (by omega)
      have hspot : spot = none := by simpa [Addr.add] using World.cell?_spot hc
      subst hspot
      refine .inr ⟨b, o, rfl, fun j hj => ?_⟩
      have hj' : j < l := by simpa using hj
      have := hcell j (by omega)
      rw [add_none] at this
      rw [this]
      simp [List.getD_eq_getElem?_getD, hj']

set_option maxRecDepth 4000 in
theorem txts_of {v : Value} {d : DataW H} {p : List MemPlace} (hv : ∃ a l c, v = .slice a l c) (h : DataW.Trod enc Try.prog W base (fun _ => true) held 60 v d p) : ∃ Ls, Txts W v Ls := by
  obtain ⟨a, l, c, rfl⟩ := hv
  obtain ⟨fuel, hf⟩ := h
  rcases open_slice Try.underlying60 hf with ⟨hcs, _⟩ | ⟨x, len, cap, m, n, D, Pl, hcs, _, hl, hm, hmm, _, hi⟩
  · simp [Value.cells] at hcs
    obtain ⟨rfl, rfl, rfl⟩ := hcs
    exact ⟨[], none, 0, [], rfl, Nat.le_refl _, by simp [maxLen], rfl, .inl rfl, by simp⟩
  · simp [Value.cells] at hcs
    obtain ⟨rfl, rfl, rfl⟩ := hcs
    simp only [if_true] at hmm
    subst hmm
    have c43 : Try.prog.cellsOf 43 = 1 := by kernel_rfl
    rw [c43] at hi
    have hcell : ∀ i, i < l → ∃ q : Value × List UInt8, W.cell? (x.add (i * 1)) = some q.1 ∧ Txt W [] q.1 q.2 := by
      intro i hil
      obtain ⟨cs', hc, ht⟩ := hi i (by omega)
      obtain ⟨_, hlen, hat⟩ := World.cells?_some hc
      obtain ⟨u, rfl, hu⟩ : ∃ u, cs' = [u] ∧ ∃ a l c, u = .slice a l c := by
        rcases open_slice Try.underlying43 ht with ⟨e, _⟩ | ⟨a, len, cap, _, _, _, _, e, _⟩
        · exact ⟨_, e, _, _, _, rfl⟩
        · exact ⟨_, e, _, _, _, rfl⟩
      have h0 := hat 0 (by omega)
      have e : (x.add (i * 1)).add 0 = x.add (i * 1) := by unfold Addr.add; split <;> simp_all
      rw [e] at h0
      obtain ⟨L, hL⟩ := txt_of (enc := enc) (W := W) (base := base) (held := held) (v := u) hu ⟨_, by
        obtain ⟨a, l, c, rfl⟩ := hu
        exact ht⟩
      exact ⟨(u, L), h0, hL⟩
    obtain ⟨Q, hQ, hr⟩ := list_of7 (R := fun i (q : Value × List UInt8) => W.cell? (x.add (i * 1)) = some q.1 ∧ Txt W [] q.1 q.2) l hcell
    refine ⟨Q.map (·.2), some x, _, Q.map (·.1), by rw [List.length_map, hQ], by rw [List.length_map]; omega, by omega, by simp, ?_, ?_⟩
    · rcases Nat.eq_zero_or_pos l with h0 | h0
      · exact .inl (by rw [List.eq_nil_of_length_eq_zero (show Q.length = 0 by omega)]; rfl)
      · obtain ⟨b, o, spot⟩ := x
        obtain ⟨y, hy, _⟩ := hcell 0 h0
        have hspot : spot = none := by simpa [Addr.add] using World.cell?_spot hy
        subst hspot
        refine .inr ⟨b, o, rfl, ?_, fun i v hv => ?_⟩
        · have := World.block_lt_of_cell? W _ hy
          simpa [Addr.add] using this
        · simp only [List.getElem?_map, Option.map_eq_some_iff] at hv
          obtain ⟨q, hq, rfl⟩ := hv
          have := (hr i q hq).1
          rw [add_none, Nat.mul_one] at this
          exact this
    · intro i v L hv hL
      simp only [List.getElem?_map, Option.map_eq_some_iff] at hv hL
      obtain ⟨q, hq, rfl⟩ := hv
      obtain ⟨q', hq', rfl⟩ := hL
      rw [hq] at hq'
      cases hq'
      exact (hr i q hq).2
end

theorem snap_any {w0 : World} {lv kv : Value} {Ls : List (List UInt8)} {kp : List Bool} {size stop torn tear : Int} (hL : Txts w0 lv Ls) (hk : Bools w0 kv kp) (hst : -9223372036854775808 ≤ stop ∧ stop ≤ 9223372036854775807) :
    Calls Try.prog 8 #[.int .i64 size, lv, .int .i64 stop, kv, .int .i64 torn, .int .i64 tear] w0 fun e w' => e = .returned (.bool true) ∧ Below w0.heap.size w0 w' := by
  by_cases h : size < 4 ∨ 60 < size ∨ Ls.length < 1 ∨ 20 < Ls.length ∨ 100 < kp.length
  · obtain ⟨la, lc, _, rfl, _⟩ := hL
    obtain ⟨ka, kc, rfl, _⟩ := hk
    exact snap_long h
  · obtain ⟨n, rfl⟩ : ∃ n : Nat, size = n := ⟨size.toNat, by omega⟩
    exact snap_walk hL hk (by omega) (by omega) (by omega) (by omega) (by omega) hst

set_option maxRecDepth 100000 in
theorem snap_lifted (os : Os) (started : os.Started) (H : Type) (enc : TypeId × Value → H) :
    ReturnsInHanded {} Try.checked os 8 .any (Rows.snapLastsSpec.pre6 enc Try.prog Try.f8 Rows.snapLastsRow.domain false) (Rows.snapLastsSpec.post enc Try.prog Try.f8 false true false false) := by
  refine returnsInHanded_of_change (C := Try.checked) own_k started (by kernel_rfl) Try.func8
    (ChangeSpec.witness6 (enc := enc) (C := Try.checked) false ⟨#[], #[.int .i64 0, .slice none 0 0, .int .i64 0, .slice none 0 0, .int .i64 0, .int .i64 0], []⟩ 8 (by kernel_rfl) (by kernel_rfl) (by kernel_rfl) (by kernel_rfl)) ?_
  intro W base args ds gs before hval0 hW hcnd _
  have hval : ∀ (j : Nat) t v, Try.f8.params[j]? = some t → args[j]? = some v → Value.okWide Try.prog W .any base t v := hval0
  have hW' := hW
  obtain ⟨p, q, hA0, hV, rfl, hfz, hnd⟩ := hW
  have hA : DataW.TrodAll enc Try.prog W 0 (fun _ => true) true Try.f8.params.toList args.toList ds p := hA0
  rw [Try.params8] at hA hval
  obtain ⟨v0, vs0, d0, ds0, p0, q0, hargs, rfl, rfl, h0, r0⟩ := trodAll_cons hA
  obtain ⟨v1, vs1, d1, ds1, p1, q1, rfl, rfl, rfl, h1, r1⟩ := trodAll_cons r0
  obtain ⟨v2, vs2, d2, ds2, p2, q2, rfl, rfl, rfl, h2, r2⟩ := trodAll_cons r1
  obtain ⟨v3, vs3, d3, ds3, p3, q3, rfl, rfl, rfl, h3, r3⟩ := trodAll_cons r2
  obtain ⟨v4, vs4, d4, ds4, p4, q4, rfl, rfl, rfl, h4, r4⟩ := trodAll_cons r3
  obtain ⟨v5, vs5, d5, ds5, p5, q5, rfl, rfl, rfl, h5, r5⟩ := trodAll_cons r4
  obtain ⟨rfl, rfl, rfl⟩ := trodAll_nil r5
  obtain rfl : args = #[v0, v1, v2, v3, v4, v5] := by cases args; simp_all
  obtain ⟨rfl, rfl⟩ := trodVars_none hV
  obtain ⟨size, rfl, rfl, rfl, w0⟩ := open_int Try.underlying3 (hval 0 3 v0 rfl rfl) h0
  obtain ⟨Ls, c1⟩ := txts_of (okWide_slice Try.underlying60 (hval 1 60 v1 rfl rfl)) h1
  obtain ⟨stop, rfl, rfl, rfl, w2⟩ := open_int Try.underlying3 (hval 2 3 v2 rfl rfl) h2
  obtain ⟨kp, c3⟩ := bools_of6 (okWide_slice Try.underlying23 (hval 3 23 v3 rfl rfl)) h3
  obtain ⟨torn, rfl, rfl, rfl, w4⟩ := open_int Try.underlying3 (hval 4 3 v4 rfl rfl) h4
  obtain ⟨tear, rfl, rfl, rfl, w5⟩ := open_int Try.underlying3 (hval 5 3 v5 rfl rfl) h5
  have lt1 : ∀ x ∈ p1, x.block < W.heap.size := by obtain ⟨m, hm⟩ := h1; exact DataW.trod_lt m _ _ _ hm
  have lt3 : ∀ x ∈ p3, x.block < W.heap.size := by obtain ⟨m, hm⟩ := h3; exact DataW.trod_lt m _ _ _ hm
  clear hA0 hval0
  refine (snap_any c1 c3 (bounds_i64 w2)).mono fun e W' ⟨he, bel⟩ => ?_
  subst he
  exact ⟨_, rfl, _, _, _, [], _, [], hW', trodAll_mk1 (shut_bool Try.underlying4 _), (trodAll_cons_mk (shut_int Try.underlying3 w0)
    (trodAll_cons_mk (Below.trod laid_k (by kernel_rfl) (of_decide_eq_true (by kernel_rfl)) h1 bel lt1) (trodAll_cons_mk (shut_int Try.underlying3 w2) (trodAll_cons_mk (Below.trod laid_k (by kernel_rfl) (of_decide_eq_true (by kernel_rfl)) h3 bel lt3)
      (trodAll_cons_mk (shut_int Try.underlying3 w4) (trodAll_cons_mk (shut_int Try.underlying3 w5) trodAll_mk0)))))), rfl, bel.frame _, fun h => by cases h⟩

theorem lasts_holds : Rows.SnapLastsSaid :=
  OpenClaim.holds_of_wide 8 Try.f8 rfl rfl rfl rfl rfl rfl rfl ⟨rfl, rfl, rfl, rfl, rfl⟩ rfl rfl rfl rfl rfl (by kernel_rfl) Try.func8 (by kernel_rfl)
    (of_decide_eq_true (by kernel_rfl)) (by unfold Func.isWrapper; first | (rw [if_pos (by decide +kernel)]; kernel_rfl) | (rw [if_neg (by decide +kernel)]; exact ⟨rfl, rfl⟩))
    (fun os started H enc _ => snap_lifted os started H enc)
#print axioms lasts_holds
end Go.Proofs.Ytclingkhdmhhoaa

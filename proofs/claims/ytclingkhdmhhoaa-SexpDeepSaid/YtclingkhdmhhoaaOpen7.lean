/- How a text is opened that a law is handed. No condition. -/
import Derived.Test.YtclingkhdmhhoaaLxM
import Derived.ProofKit
import Derived.OpenShut
import Derived.Deep.Slices
import Derived.Deep.Grids
import Derived.Below
import Derived.ShutString
import Derived.ChangeOld
namespace Go.Proofs.Ytclingkhdmhhoaa
open Go.ChangeShapes Go.WideShapes Go.ChangeAt Go.RowKit Go.Deep
set_option linter.unusedSimpArgs false
set_option linter.unusedVariables false

theorem list_of7 {α : Type} {R : Nat → α → Prop} : ∀ (n : Nat), (∀ i, i < n → ∃ c, R i c) → ∃ l : List α, l.length = n ∧ ∀ i c, l[i]? = some c → R i c
  | 0, _ => ⟨[], rfl, by simp⟩
  | n + 1, h => by
    obtain ⟨l, hl, hr⟩ := list_of7 n fun i hi => h i (by omega)
    obtain ⟨c, hc⟩ := h n (by omega)
    refine ⟨l ++ [c], by simp [hl], fun i d hd => ?_⟩
    rcases Nat.lt_or_ge i n with hi | hi
    · rw [List.getElem?_append_left (by omega)] at hd; exact hr i d hd
    · rw [List.getElem?_append_right (by omega)] at hd
      have hin : i = n := by
        rcases Nat.eq_or_lt_of_le hi with e | e
        · exact e.symm
        · rw [List.getElem?_eq_none (by simp; omega)] at hd; cases hd
      subst hin
      rw [hl, Nat.sub_self] at hd
      cases hd; exact hc

theorem u8_of7 {n : Int} (h : (Lit.int .u8 n).wf = true) : ∃ b : UInt8, n = (b.toNat : Int) := by
  have h1 : 0 ≤ n ∧ n ≤ 255 := bounds_u8 h
  refine ⟨UInt8.ofNat n.toNat, ?_⟩
  rw [UInt8.toNat_ofNat']; omega

section
variable {H : Type} {enc : TypeId × Value → H} {W : World} {base : Nat} {held : Bool}
theorem txt_of {v : Value} {d : DataW H} {p : List MemPlace} (hv : ∃ a l c, v = .slice a l c) (h : DataW.Trod enc Try.prog W base (fun _ => true) held 43 v d p) : ∃ l, Txt W [] v l := by
  obtain ⟨a, l, c, rfl⟩ := hv
  obtain ⟨fuel, hf⟩ := h
  rcases open_slice Try.underlying43 hf with ⟨hcs, _⟩ | ⟨x, len, cap, m, n, D, Pl, hcs, _, hl, hm, hmm, _, hi⟩
  · simp [Value.cells] at hcs
    obtain ⟨rfl, rfl, rfl⟩ := hcs
    exact ⟨[], none, 0, rfl, Nat.le_refl _, by simp [maxLen], .inl rfl⟩
  · simp [Value.cells] at hcs
    obtain ⟨rfl, rfl, rfl⟩ := hcs
    simp only [if_true] at hmm
    subst hmm
    have c5 : Try.prog.cellsOf 5 = 1 := by kernel_rfl
    rw [c5] at hi
    have hcell : ∀ i, i < l → ∃ b : UInt8, W.cell? (x.add (i * 1)) = some (u8 b) := by
      intro i hil
      obtain ⟨cs', hc, ht⟩ := hi i (by omega)
      obtain ⟨_, hlen, hat⟩ := World.cells?_some hc
      obtain ⟨k, hk, _, hw⟩ := DataW.trod_int Try.underlying5 ht
      obtain ⟨b, rfl⟩ := u8_of7 hw
      refine ⟨b, ?_⟩
      have h0 := hat 0 (by omega)
      rw [hk] at h0
      have e : (x.add (i * 1)).add 0 = x.add (i * 1) := by unfold Addr.add; split <;> simp_all
      rw [e] at h0
      exact h0
    obtain ⟨L, hL, hr⟩ := list_of7 (R := fun i b => W.cell? (x.add (i * 1)) = some (u8 b)) l hcell
    refine ⟨L, some x, _, by rw [hL], by omega, by omega, ?_⟩
    rcases Nat.eq_zero_or_pos l with h0 | h0
    · exact .inl (List.eq_nil_of_length_eq_zero (by omega))
    · obtain ⟨b, o, spot⟩ := x
      obtain ⟨y, hy⟩ := hcell 0 h0
      have hspot : spot = none := by simpa [Addr.add] using World.cell?_spot hy
      subst hspot
      refine .inr ⟨b, o, rfl, ?_, by simp, fun i z hz => ?_⟩
      · have := World.block_lt_of_cell? W _ hy
        simpa [Addr.add] using this
      · have := hr i z hz
        rw [add_none, Nat.mul_one] at this
        exact this
end
theorem own_k : ownKnob Try.prog.godebug = none := by kernel_rfl
theorem laid_k : laidOutB Try.prog = true := by kernel_rfl
end Go.Proofs.Ytclingkhdmhhoaa

/- What the arguments of the disk's laws hold: read off their readings. No condition. -/
import Derived.Test.YtclingkhdmhhoaaFlushed
import Derived.ProofKit
import Derived.OpenShut
import Derived.Deep.Slices
import Derived.Deep.Grids
namespace Go.Proofs.Ytclingkhdmhhoaa
open Go.ChangeShapes Go.WideShapes Go.ChangeAt Go.RowKit Go.Deep
set_option linter.unusedSimpArgs false

theorem list_of {α : Type} {R : Nat → α → Prop} : ∀ (n : Nat), (∀ i, i < n → ∃ c, R i c) → ∃ l : List α, l.length = n ∧ ∀ i c, l[i]? = some c → R i c
  | 0, _ => ⟨[], rfl, by simp⟩
  | n + 1, h => by
    obtain ⟨l, hl, hr⟩ := list_of n fun i hi => h i (by omega)
    obtain ⟨c, hc⟩ := h n (by omega)
    refine ⟨l ++ [c], by simp [hl], fun i d hd => ?_⟩
    rcases Nat.lt_or_ge i n with hi | hi
    · rw [List.getElem?_append_left (by omega)] at hd; exact hr i d hd
    · rw [List.getElem?_append_right (by omega)] at hd
      have hin : i = n := by
        rcases Nat.eq_or_lt_of_le hi with e | e
        · exact e.symm
        · rw [List.getElem?_eq_none (by simp; omega)] at hd; cases hd
      subst hin
      rw [hl, Nat.sub_self] at hd
      cases hd; exact hc

section
variable {H : Type} {enc : TypeId × Value → H} {W : World} {base : Nat} {spare : Nat → Bool} {held : Bool}

theorem u8_of {n : Int} (h : (Lit.int .u8 n).wf = true) : ∃ b : UInt8, n = (b.toNat : Int) := by
  have h1 : 0 ≤ n ∧ n ≤ 255 := bounds_u8 h
  refine ⟨UInt8.ofNat n.toNat, ?_⟩
  rw [UInt8.toNat_ofNat']; omega

theorem bytes_of {t n fuel : Nat} (ht : Try.prog.underlying t = some (.array n 5)) {cs : List Value} {x : DataW H × List MemPlace} (hn : cs.length = n) (h : DataW.trod enc Try.prog W base spare held fuel t cs = some x) :
    ∃ s : List UInt8, cs = sv s ∧ s.length = n := by
  obtain ⟨xs, m, _, _, _, hxs, hi⟩ := DataW.trod_array ht h
  have hc5 : Try.prog.cellsOf 5 = 1 := by kernel_rfl
  have hel : ∀ i, i < n → ∃ b : UInt8, cs[i]? = some (u8 b) := by
    intro i hin
    have h1 := hi i hin
    rw [hc5, Nat.mul_one, List.getElem?_eq_getElem (by omega)] at h1
    obtain ⟨k, hk, _, hw⟩ := DataW.trod_int Try.underlying5 h1
    obtain ⟨b, rfl⟩ := u8_of hw
    refine ⟨b, ?_⟩
    have h2 := congrArg (fun l => l[0]?) hk
    simpa [List.getElem?_take, List.getElem?_drop, u8] using h2
  obtain ⟨s, hs, hr⟩ := list_of n hel
  refine ⟨s, ?_, hs⟩
  apply List.ext_getElem?
  intro i
  rcases Nat.lt_or_ge i n with hin | hin
  · have e1 : s[i]? = some s[i] := List.getElem?_eq_getElem (by omega)
    rw [hr i _ e1]
    simp [sv, e1]
  · rw [List.getElem?_eq_none (by omega), List.getElem?_eq_none (by rw [length_sv]; omega)]

theorem bools_of {v : Value} {d : DataW H} {p : List MemPlace} (hv : ∃ a l c, v = .slice a l c) (h : DataW.Trod enc Try.prog W base (fun _ => true) held 23 v d p) : ∃ kp, Bools W v kp := by
  obtain ⟨a, l, c, rfl⟩ := hv
  obtain ⟨fuel, hf⟩ := h
  rcases open_bools Try.underlying23 Try.underlying4 (by kernel_rfl) hf with ⟨hcs, _⟩ | ⟨x, len, cap, B, hcs, _, hl, hm, _, hcell⟩
  · simp [Value.cells] at hcs
    obtain ⟨rfl, rfl, rfl⟩ := hcs
    exact ⟨[], none, 0, rfl, .inl rfl⟩
  · simp [Value.cells] at hcs
    obtain ⟨rfl, rfl, rfl⟩ := hcs
    refine ⟨(List.range l).map B, some x, c, by simp, ?_⟩
    rcases Nat.eq_zero_or_pos l with h0 | h0
    · exact .inl (by simp [h0])
    · obtain ⟨b, o, spot⟩ := x
      have hc := hcell 0 (by omega)
      have hspot : spot = none := by simpa [Addr.add] using World.cell?_spot hc
      subst hspot
      refine .inr ⟨b, o, rfl, fun j hj => ?_⟩
      have hj' : j < l := by simpa using hj
      have := hcell j (by omega)
      rw [add_none] at this
      rw [this]
      simp [List.getD_eq_getElem?_getD, hj']

theorem one_of {l : List Value} {k : Nat} {v : Value} (h : (l.drop k).take 1 = [v]) : l[k]? = some v := by
  have := congrArg (fun l => l[0]?) h
  simpa [List.getElem?_take, List.getElem?_drop] using this

set_option maxRecDepth 4000 in
theorem call_of {x : Addr} {b o i fuel : Nat} {cs : List Value} {y : DataW H × List MemPlace} (hx : x = ⟨b, o, none⟩) (hc : W.cells? base (x.add (i * 68)) 68 = some cs)
    (h : DataW.trod enc Try.prog W base (fun _ => true) held fuel 31 cs = some y) : ∃ c, CallAt W b (o + i * 68) c := by
  subst hx
  obtain ⟨_, hlen, hat⟩ := World.cells?_some hc
  obtain ⟨xs, n, _, _, _, hxs, hi⟩ := DataW.trod_struct Try.underlying31 h
  have hxs5 : xs.length = 5 := hxs
  have c3 : Try.prog.cellsOf 3 = 1 := by kernel_rfl
  have c29 : Try.prog.cellsOf 29 = 64 := by kernel_rfl
  have c23 : Try.prog.cellsOf 23 = 1 := by kernel_rfl
  have h0 : DataW.trod enc Try.prog W base (fun _ => true) held n 3 ((cs.drop 0).take (Try.prog.cellsOf 3)) = xs[0]? := hi 0 _ rfl
  have h1 : DataW.trod enc Try.prog W base (fun _ => true) held n 3 ((cs.drop 1).take (Try.prog.cellsOf 3)) = xs[1]? := hi 1 _ rfl
  have h2 : DataW.trod enc Try.prog W base (fun _ => true) held n 3 ((cs.drop 2).take (Try.prog.cellsOf 3)) = xs[2]? := hi 2 _ rfl
  have h3 : DataW.trod enc Try.prog W base (fun _ => true) held n 29 ((cs.drop 3).take (Try.prog.cellsOf 29)) = xs[3]? := hi 3 _ rfl
  have h4 : DataW.trod enc Try.prog W base (fun _ => true) held n 23 ((cs.drop 67).take (Try.prog.cellsOf 23)) = xs[4]? := hi 4 _ rfl
  rw [c3] at h0 h1 h2
  rw [c29] at h3
  rw [c23] at h4
  rw [List.getElem?_eq_getElem (by omega)] at h0 h1 h2 h3 h4
  obtain ⟨n0, e0, _, _⟩ := DataW.trod_int Try.underlying3 h0
  obtain ⟨n1, e1, _, _⟩ := DataW.trod_int Try.underlying3 h1
  obtain ⟨n2, e2, _, _⟩ := DataW.trod_int Try.underlying3 h2
  obtain ⟨s, e3, hs⟩ := bytes_of Try.underlying29 (by simp [hlen]) h3
  have e4 : ∃ v, (cs.drop 67).take 1 = [v] ∧ v.oneCell' = true := by
    rcases open_slice Try.underlying23 h4 with ⟨e, _⟩ | ⟨a, len, cap, _, _, _, _, e, _⟩
    · exact ⟨_, e, rfl⟩
    · exact ⟨_, e, rfl⟩
  obtain ⟨v4, e4, o4⟩ := e4
  have hcut : cut cs 3 64 = sv s := e3
  refine ⟨(n0, n1, s), cs, hlen, fun j v hv => ?_, ?_, one_of e0, one_of e1, hcut, hs⟩
  · have hj : j < 68 := by rw [← hlen]; exact (List.getElem?_eq_some_iff.1 hv).1
    have := hat j hj
    rw [add_none, add_none] at this
    rw [this, hv]
  · intro v hv
    obtain ⟨j, hj, rfl⟩ := List.mem_iff_getElem.1 hv
    have hq : cs[j]? = some cs[j] := List.getElem?_eq_getElem hj
    by_cases hj3 : j < 3
    · rcases j with _ | _ | _ | j
      · rw [one_of e0] at hq; rw [← Option.some.inj hq]; rfl
      · rw [one_of e1] at hq; rw [← Option.some.inj hq]; rfl
      · rw [one_of e2] at hq; rw [← Option.some.inj hq]; rfl
      · omega
    · by_cases hj67 : j < 67
      · have hm : (sv s)[j - 3]? = some cs[j] := by
          rw [← hcut, cut, List.getElem?_take, if_pos (by omega), List.getElem?_drop, ← hq]
          congr 1; omega
        exact one_sv s _ (List.mem_of_getElem? hm)
      · obtain rfl : j = 67 := by omega
        rw [one_of e4] at hq; rw [← Option.some.inj hq]; exact o4

theorem calls_of {v : Value} {d : DataW H} {p : List MemPlace} (hv : ∃ a l c, v = .slice a l c) (h : DataW.Trod enc Try.prog W base (fun _ => true) held 22 v d p) : ∃ cs, CallsAt W v cs := by
  obtain ⟨a, l, c, rfl⟩ := hv
  obtain ⟨fuel, hf⟩ := h
  rcases open_slice Try.underlying22 hf with ⟨hcs, _⟩ | ⟨x, len, cap, m, n, D, Pl, hcs, _, hl, hm, hmm, _, hi⟩
  · simp [Value.cells] at hcs
    obtain ⟨rfl, rfl, rfl⟩ := hcs
    exact ⟨[], none, 0, rfl, .inl rfl⟩
  · simp [Value.cells] at hcs
    obtain ⟨rfl, rfl, rfl⟩ := hcs
    simp only [if_true] at hmm
    subst hmm
    have c31 : Try.prog.cellsOf 31 = 68 := by kernel_rfl
    rw [c31] at hi
    rcases Nat.eq_zero_or_pos l with h0 | h0
    · exact ⟨[], some x, _, by simp only [h0, List.length_nil]; rfl, .inl rfl⟩
    · obtain ⟨b, o, spot⟩ := x
      have hspot : spot = none := by
        obtain ⟨cs', hc, _⟩ := hi 0 (by omega)
        obtain ⟨_, hlen, hat⟩ := World.cells?_some hc
        have h1 := hat 0 (by omega)
        rw [List.getElem?_eq_getElem (by omega)] at h1
        simpa [Addr.add] using World.cell?_spot h1
      subst hspot
      obtain ⟨cs, hcl, hr⟩ := list_of (R := fun i c => CallAt W b (o + i * 68) c) l (fun i hil => by
        obtain ⟨cs', hc, ht⟩ := hi i (by omega)
        exact call_of rfl hc ht)
      exact ⟨cs, some ⟨b, o, none⟩, _, by rw [hcl], .inr ⟨b, o, rfl, hr⟩⟩
end
end Go.Proofs.Ytclingkhdmhhoaa

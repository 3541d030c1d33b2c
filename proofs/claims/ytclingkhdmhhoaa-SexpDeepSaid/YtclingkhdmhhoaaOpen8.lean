/- How a row of tokens is opened that a law is handed. No condition. -/
import Derived.Test.YtclingkhdmhhoaaOpen7
import Derived.Test.YtclingkhdmhhoaaLxS
namespace Go.Proofs.Ytclingkhdmhhoaa
open Go.ChangeShapes Go.WideShapes Go.ChangeAt Go.RowKit Go.Deep
set_option linter.unusedSimpArgs false
set_option linter.unusedVariables false

theorem one_of8 {l : List Value} {k : Nat} {v : Value} (h : (l.drop k).take 1 = [v]) : l[k]? = some v := by
  have := congrArg (fun l => l[0]?) h
  simpa [List.getElem?_take, List.getElem?_drop] using this
section
variable {H : Type} {enc : TypeId × Value → H} {W : World} {base : Nat} {held : Bool}
set_option maxRecDepth 4000 in
theorem tok_open {x : Addr} {b o i fuel : Nat} {cs : List Value} {y : DataW H × List MemPlace} (hx : x = ⟨b, o, none⟩) (hc : W.cells? base (x.add (i * 3)) 3 = some cs)
    (h : DataW.trod enc Try.prog W base (fun _ => true) held fuel 54 cs = some y) : ∃ t : Tok, ∀ j u, t.cells[j]? = some u → W.cell? ⟨b, o + i * 3 + j, none⟩ = some u := by
  subst hx
  obtain ⟨_, hlen, hat⟩ := World.cells?_some hc
  obtain ⟨xs, n, _, _, _, hxs, hi⟩ := DataW.trod_struct Try.underlying54 h
  have hxs3 : xs.length = 3 := hxs
  have c3 : Try.prog.cellsOf 3 = 1 := by kernel_rfl
  have c9 : Try.prog.cellsOf 9 = 1 := by kernel_rfl
  have h0 : DataW.trod enc Try.prog W base (fun _ => true) held n 3 ((cs.drop 0).take (Try.prog.cellsOf 3)) = xs[0]? := hi 0 _ rfl
  have h1 : DataW.trod enc Try.prog W base (fun _ => true) held n 9 ((cs.drop 1).take (Try.prog.cellsOf 9)) = xs[1]? := hi 1 _ rfl
  have h2 : DataW.trod enc Try.prog W base (fun _ => true) held n 3 ((cs.drop 2).take (Try.prog.cellsOf 3)) = xs[2]? := hi 2 _ rfl
  rw [c3] at h0 h2
  rw [c9] at h1
  rw [List.getElem?_eq_getElem (by omega)] at h0 h1 h2
  obtain ⟨n0, e0, _, _⟩ := DataW.trod_int Try.underlying3 h0
  obtain ⟨s, e1, _, _⟩ := DataW.trod_string Try.underlying9 h1
  obtain ⟨n2, e2, _, _⟩ := DataW.trod_int Try.underlying3 h2
  refine ⟨⟨n0, s.data.toList, n2⟩, fun j u hu => ?_⟩
  have g0 := one_of8 e0
  have g1 := one_of8 e1
  have g2 := one_of8 e2
  have key : ∀ j v, j < 3 → cs[j]? = some v → W.cell? ⟨b, o + i * 3 + j, none⟩ = some v := by
    intro j v hj hv
    have := hat j hj
    rw [add_none, add_none] at this
    rw [this, hv]
  rcases j with _ | _ | _ | j
  · cases hu; exact key 0 _ (by omega) g0
  · cases hu; exact key 1 _ (by omega) (by rw [g1]; unfold str; simp)
  · cases hu; exact key 2 _ (by omega) g2
  · simp [Tok.cells] at hu
theorem toks_of {v : Value} {d : DataW H} {p : List MemPlace} (hv : ∃ a l c, v = .slice a l c) (h : DataW.Trod enc Try.prog W base (fun _ => true) held 44 v d p) : ∃ ts, Tks W v ts := by
  obtain ⟨a, l, c, rfl⟩ := hv
  obtain ⟨fuel, hf⟩ := h
  rcases open_slice Try.underlying44 hf with ⟨hcs, _⟩ | ⟨x, len, cap, m, n, D, Pl, hcs, _, hl, hm, hmm, _, hi⟩
  · simp [Value.cells] at hcs
    obtain ⟨rfl, rfl, rfl⟩ := hcs
    exact ⟨[], none, 0, rfl, Nat.le_refl _, .inl rfl⟩
  · simp [Value.cells] at hcs
    obtain ⟨rfl, rfl, rfl⟩ := hcs
    simp only [if_true] at hmm
    subst hmm
    have c54 : Try.prog.cellsOf 54 = 3 := by kernel_rfl
    rw [c54] at hi
    rcases Nat.eq_zero_or_pos l with h0 | h0
    · exact ⟨[], some x, _, by simp only [h0, List.length_nil]; rfl, by simp, .inl rfl⟩
    · obtain ⟨b, o, spot⟩ := x
      have hspot : spot = none := by
        obtain ⟨cs', hc, _⟩ := hi 0 (by omega)
        obtain ⟨_, hlen, hat⟩ := World.cells?_some hc
        have h1 := hat 0 (by omega)
        rw [List.getElem?_eq_getElem (by omega)] at h1
        simpa [Addr.add] using World.cell?_spot h1
      subst hspot
      obtain ⟨ts, htl, hr⟩ := list_of7 (R := fun i (t : Tok) => ∀ j u, t.cells[j]? = some u → W.cell? ⟨b, o + i * 3 + j, none⟩ = some u) l (fun i hil => by
        obtain ⟨cs', hc, ht⟩ := hi i (by omega)
        exact tok_open rfl hc ht)
      exact ⟨ts, some ⟨b, o, none⟩, _, by rw [htl], by omega, .inr ⟨b, o, rfl, hr⟩⟩
end
end Go.Proofs.Ytclingkhdmhhoaa

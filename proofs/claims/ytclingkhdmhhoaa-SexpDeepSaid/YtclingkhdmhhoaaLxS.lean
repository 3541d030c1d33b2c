/- Tokens held against tokens; constant texts; the example of chapter 7. No condition. -/
import Derived.Test.YtclingkhdmhhoaaLxR
import Derived.Lib.SlBytesConst
namespace Go.Proofs.Ytclingkhdmhhoaa
open Go.RowKit
set_option linter.unusedSimpArgs false
set_option linter.unusedVariables false

def tokB (a b : Tok) : Bool := (a.kind == b.kind && a.text == b.text) && a.at_ == b.at_
theorem tokB_self (a : Tok) : tokB a a = true := by simp [tokB]
theorem tokB_eq {a b : Tok} : tokB a b = true ↔ a = b := by
  cases a; cases b; simp [tokB, and_assoc]
def toksB : List Tok → List Tok → Bool
  | [], [] => true
  | a :: xs, b :: ys => tokB a b && toksB xs ys
  | _, _ => false
theorem toksB_self : ∀ l, toksB l l = true
  | [] => rfl
  | a :: xs => by simp [toksB, tokB_self, toksB_self xs]
theorem toksB_eq : ∀ {l m : List Tok}, toksB l m = true ↔ l = m
  | [], [] => by simp [toksB]
  | a :: xs, [] => by simp [toksB]
  | [], b :: ys => by simp [toksB]
  | a :: xs, b :: ys => by simp [toksB, tokB_eq, toksB_eq]
theorem toksB_len : ∀ {l m : List Tok}, l.length ≠ m.length → toksB l m = false
  | [], [], h => absurd rfl h
  | a :: xs, [], _ => rfl
  | [], b :: ys, _ => rfl
  | a :: xs, b :: ys, h => by rw [toksB, toksB_len (by simpa using h), Bool.and_false]
theorem toksB_drop {l m : List Tok} {j : Nat} {a b : Tok} (ha : l[j]? = some a) (hb : m[j]? = some b) : toksB (l.drop j) (m.drop j) = (tokB a b && toksB (l.drop (j + 1)) (m.drop (j + 1))) := by
  have h1 := List.getElem?_eq_some_iff.1 ha
  have h2 := List.getElem?_eq_some_iff.1 hb
  rw [List.drop_eq_getElem_cons h1.1, List.drop_eq_getElem_cons h2.1, h1.2, h2.2]; rfl

theorem str_eq (s t : List UInt8) : ((⟨s.toArray⟩ : ByteArray).toList == (⟨t.toArray⟩ : ByteArray).toList) = (s == t) := by simp
theorem eq_tok (a b : Tok) (w : World) : (binOp .eql 54 (.agg a.cells.toArray) (.agg b.cells.toArray)).run Try.prog w = .ok (.bool (tokB a b)) w := by
  obtain ⟨k, t, p⟩ := a
  obtain ⟨k', t', p'⟩ := b
  show (binOp .eql 54 (.agg #[.int .i64 k, .string ⟨t.toArray⟩, .int .i64 p]) (.agg #[.int .i64 k', .string ⟨t'.toArray⟩, .int .i64 p'])).run Try.prog w = _
  go_simp
  by_cases h1 : k = k' <;> by_cases h2 : t = t' <;> by_cases h3 : p = p' <;> simp [h1, h2, h3, tokB]
theorem neq_tok (a b : Tok) (w : World) : (binOp .neq 54 (.agg a.cells.toArray) (.agg b.cells.toArray)).run Try.prog w = .ok (.bool (!(tokB a b))) w := by
  obtain ⟨k, t, p⟩ := a
  obtain ⟨k', t', p'⟩ := b
  show (binOp .neq 54 (.agg #[.int .i64 k, .string ⟨t.toArray⟩, .int .i64 p]) (.agg #[.int .i64 k', .string ⟨t'.toArray⟩, .int .i64 p'])).run Try.prog w = _
  go_simp
  by_cases h1 : k = k' <;> by_cases h2 : t = t' <;> by_cases h3 : p = p' <;> simp [h1, h2, h3, tokB]
theorem guard_tok (op : BinOp) (x y : Operand) (a b : Tok) (w : World) : (eqGuard op 54 x y (.agg a.cells.toArray) (.agg b.cells.toArray)).run Try.prog w = .ok () w := by go_simp
theorem eq_flt (k k' a a' : Int) (w : World) : (binOp .eql 46 (.agg #[.int .i64 k, .int .i64 a]) (.agg #[.int .i64 k', .int .i64 a'])).run Try.prog w = .ok (.bool (k == k' && a == a')) w := by
  go_simp
  by_cases h1 : k = k' <;> by_cases h2 : a = a' <;> simp [h1, h2]
theorem guard_flt (op : BinOp) (x y : Operand) (k k' a a' : Int) (w : World) : (eqGuard op 46 x y (.agg #[.int .i64 k, .int .i64 a]) (.agg #[.int .i64 k', .int .i64 a'])).run Try.prog w = .ok () w := by go_simp

/-- a slice of tokens that is read -/
def Tks (w : World) (v : Value) (ts : List Tok) : Prop :=
  ∃ A c, v = .slice A ts.length c ∧ ts.length ≤ c ∧ (ts = [] ∨ ∃ b o, A = some ⟨b, o, none⟩ ∧ ∀ i t, ts[i]? = some t → ∀ j u, t.cells[j]? = some u → w.cell? ⟨b, o + i * 3 + j, none⟩ = some u)
theorem tcells_len (ts : List Tok) : ∀ x ∈ ts.map Tok.cells, x.length = 3 := by
  intro x hx
  obtain ⟨t, _, rfl⟩ := List.mem_map.1 hx
  rfl
theorem Sl.tks {w0 w : World} {D : List Nat} {H C : List (Nat × Obj)} {v : Value} {ts : List Tok} (hsl : Sl 54 3 v ts.length (tcells ts) C) (hs : St w0 D H w) (hC : ∀ p ∈ C, p ∈ H) : Tks w v ts := by
  rcases hsl.2 with ⟨rfl, h0, _⟩ | ⟨g, cap, junk, rfl, rfl, h1, h2, h3⟩
  · have : ts = [] := List.eq_nil_of_length_eq_zero h0
    subst this
    exact ⟨none, 0, rfl, Nat.le_refl _, .inl rfl⟩
  · refine ⟨_, _, rfl, h3, .inr ⟨g, 0, rfl, fun i t hi j u hj => ?_⟩⟩
    have hg := hs.has.known (g, row 54 (tcells ts ++ junk)) (hC _ (by simp))
    rw [row_cell hg, Nat.zero_add]
    have hj3 : j < 3 := by have := (List.getElem?_eq_some_iff.1 hj).1; simpa [Tok.cells] using this
    have := flat_get (k := 3) (ls := ts.map Tok.cells) (tcells_len ts) (i := i) (x := t.cells) (by simp [hi]) (o := j) hj3 (junk := junk)
    unfold tcells
    rw [this, hj]
theorem Tks.same {w w' : World} {v : Value} {ts : List Tok} (h : Tks w v ts) (hc : ∀ p u, w.cell? p = some u → w'.cell? p = some u) : Tks w' v ts := by
  obtain ⟨A, c, h1, h2, h3⟩ := h
  refine ⟨A, c, h1, h2, ?_⟩
  rcases h3 with h | ⟨b, o, rfl, hcc⟩
  · exact .inl h
  · exact .inr ⟨b, o, rfl, fun i t hi j u hj => hc _ _ (hcc i t hi j u hj)⟩

theorem ex_ld_c {P : Program} {ρ : Operand → Value} {w : World} {dst : Option Tmp} {t : TypeId} {pos : String} {aft : Array Edge} {g : Option (Nat × Bool)} {ty b off n : Nat} {x : Operand} {vs : List Value} (hx : ρ x = .pointer (some ⟨b, off, none⟩)) (ht : Ag P ty n) (hn : vs.length = n)
    (hc : ∀ j v, vs[j]? = some v → w.cell? ⟨b, off + j, none⟩ = some v) : (execOp ρ ⟨dst, .load ty x, t, pos, aft, g⟩).run P w = .ok (.value (.agg vs.toArray)) w := ex_ld hx (run_ld_a ht hn hc)

set_option maxHeartbeats 1000000 in
set_option maxRecDepth 4000 in
theorem same7 {w0 : World} {va vb : Value} {A B : List Tok} (ha : Tks w0 va A) (hb : Tks w0 vb B) (hA : A.length ≤ 1073741824) (hB : B.length ≤ 1073741824) :
    Calls Try.prog 25 #[va, vb] w0 fun e w' => e = .returned (.bool (toksB A B)) ∧ ∃ n, w' = w0.drewN n := by
  obtain ⟨pa, ca, rfl, h1a, h2a⟩ := ha
  obtain ⟨pb, cb, rfl, h1b, h2b⟩ := hb
  by_cases hl : A.length = B.length
  · have hq : ((A.length : Int) != (B.length : Int)) = false := by simp [hl]
    have hl' := hid hl
    generalize hR : toksB A B = R
    replace hR := hid hR
    replace h2a := hid h2a
    replace h2b := hid h2b
    clear hl
    go_enter Try.func25, Try.ntmps25
    go_wp2
    go_loopg [5] A.length (fun g iv wr => ∃ j : Nat, j ≤ A.length ∧ g = A.length - j ∧ iv = .int .i64 j ∧ (∃ n, wr = w0.drewN n) ∧ Hid (toksB (A.drop j) (B.drop j) = R))
    case atStart => exact ⟨0, Nat.zero_le _, rfl, rfl, ⟨0, rfl⟩, hid (by simpa using hR.out)⟩
    case round =>
      obtain ⟨j, hj, rfl, rfl, ⟨n, rfl⟩, hr⟩ := hrel
      by_cases hlt : j < A.length
      · have hltB : j < B.length := by have := hl'.out; omega
        have ea : A[j]? = some A[j] := List.getElem?_eq_getElem hlt
        have eb : B[j]? = some B[j] := List.getElem?_eq_getElem hltB
        obtain ⟨ba, oa, rfl, hca⟩ : ∃ b o, pa = some ⟨b, o, none⟩ ∧ ∀ k u, A[j].cells[k]? = some u → w0.cell? ⟨b, o + j * 3 + k, none⟩ = some u := by
          rcases h2a.out with h | ⟨b, o, h, hc⟩
          · subst h; simp at hlt
          · exact ⟨b, o, h, fun k u hk => hc j _ ea k u hk⟩
        obtain ⟨bb, ob, rfl, hcb⟩ : ∃ b o, pb = some ⟨b, o, none⟩ ∧ ∀ k u, B[j].cells[k]? = some u → w0.cell? ⟨b, o + j * 3 + k, none⟩ = some u := by
          rcases h2b.out with h | ⟨b, o, h, hc⟩
          · subst h; simp at hltB
          · exact ⟨b, o, h, fun k u hk => hc j _ eb k u hk⟩
        have hdr := toksB_drop ea eb
        have hq1 : decide ((j : Int) < (A.length : Int)) = true := by simp; omega
        generalize A[j] = ta at *
        generalize B[j] = tb at *
        replace hca := hid hca
        replace hcb := hid hcb
        replace hdr := hid hdr
        clear ea eb
        go_wp2
        refine wp_region_phases [] (wsOf [(w0.drewN n).drew]) follows (by kernel_rfl) (by kernel_rfl) rfl ?_
        refine LinP.pure rfl rfl (ex_move (ev rfl)) (pu rfl (by simp only [List.set_cons_succ, List.set_cons_zero]; rfl)) ?_
        refine LinP.pure rfl rfl (ex_move (ev rfl)) (pu rfl (by simp only [List.set_cons_succ, List.set_cons_zero]; rfl)) ?_
        refine LinP.pure rfl rfl (ex_indexAddr st44 (ev rfl) (ev rfl) hlt) (pu rfl (by simp only [List.set_cons_succ, List.set_cons_zero]; rfl)) ?_
        refine LinP.rd 0 rfl rfl (by kernel_rfl) (by kernel_rfl) (ex_ld_c (w := (w0.drewN n).drew) (vs := ta.cells) (ev rfl) ag54 rfl hca.out) (pu rfl (by simp only [List.set_cons_succ, List.set_cons_zero]; rfl)) ?_
        refine LinP.pure rfl rfl (ex_move (ev rfl)) (pu rfl (by simp only [List.set_cons_succ, List.set_cons_zero]; rfl)) ?_
        refine LinP.pure rfl rfl (ex_move (ev rfl)) (pu rfl (by simp only [List.set_cons_succ, List.set_cons_zero]; rfl)) ?_
        refine LinP.pure rfl rfl (ex_indexAddr st44 (ev rfl) (ev rfl) hltB) (pu rfl (by simp only [List.set_cons_succ, List.set_cons_zero]; rfl)) ?_
        refine LinP.rd 0 rfl rfl (by kernel_rfl) (by kernel_rfl) (ex_ld_c (w := (w0.drewN n).drew) (vs := tb.cells) (ev rfl) ag54 rfl hcb.out) (pu rfl (by simp only [List.set_cons_succ, List.set_cons_zero]; rfl)) ?_
        refine LinP.pure rfl rfl (fun w => ex_bin (ev rfl) (ev rfl) (guard_tok _ _ _ _ _ w) (neq_tok ta tb w)) (pu rfl (by simp only [List.set_cons_succ, List.set_cons_zero]; rfl)) ?_
        refine LinP.done ?_
        cases he : tokB ta tb with
        | true =>
          have h3 : toksB (A.drop (j + 1)) (B.drop (j + 1)) = R := by
            have := hdr.out
            rw [he, Bool.true_and] at this
            rw [← this]; exact hr.out
          replace h3 := hid h3
          rw [show (!true) = false from rfl]
          replace he := hid he
          go_wp2
          go_roundg (A.length - (j + 1))
          case measure => omega
          case rel => exact ⟨j + 1, hlt, rfl, by go_num, ⟨n + 1, rfl⟩, h3⟩
        | false =>
          have h3 : R = false := by
            have := hdr.out
            rw [he, Bool.false_and] at this
            rw [← hr.out, this]
          subst h3
          rw [show (!false) = true from rfl]
          replace he := hid he
          go_wp2
          go_ret
          exact ⟨rfl, n + 1, rfl⟩
      · have hR2 : R = true := by
          have e1 : A.drop j = [] := List.drop_eq_nil_of_le (by omega)
          have e2 : B.drop j = [] := List.drop_eq_nil_of_le (by have := hl'.out; omega)
          have := hr.out
          rw [e1, e2] at this
          exact this.symm.trans rfl
        subst hR2
        obtain rfl : j = A.length := by omega
        go_wp2
        go_ret
        exact ⟨rfl, n, rfl⟩
  · have hne : ((A.length : Int) != (B.length : Int)) = true := by simp; omega
    rw [toksB_len hl]
    clear h2a h2b hl
    go_enter Try.func25, Try.ntmps25
    go_wp2
    go_ret
    exact ⟨rfl, 0, rfl⟩
end Go.Proofs.Ytclingkhdmhhoaa

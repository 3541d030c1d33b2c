/- The walks of lex's reader: skip, and the tokens. No condition. -/
import Derived.Test.YtclingkhdmhhoaaLxC
namespace Go.Proofs.Ytclingkhdmhhoaa
open Go.RowKit
set_option linter.unusedSimpArgs false
set_option linter.unusedVariables false

theorem ent61 : Ent 62 := by intro args w; go_simp
theorem ent64 : Ent 64 := by intro args w; go_simp
theorem ent68 : Ent 68 := by intro args w; go_simp
theorem ent86 : Ent 86 := by intro args w; go_simp
theorem ent87 : Ent 87 := by intro args w; go_simp
theorem ent89 : Ent 89 := by intro args w; go_simp
theorem tells62 : Tells 62 blankI := fun c w => blank_any c.toNat w
theorem tells64 : Tells 64 lineI := fun c w => line_any c.toNat w
theorem tells68 : Tells 68 digitI := fun c w => digit_any c.toNat w
theorem tells86 : Tells 86 innerI := fun c w => inner_any c w
theorem tells87 : Tells 87 barI := fun c w => bar_any c.toNat w
theorem tells89 : Tells 89 quoI := fun c w => quo_any c.toNat w

/-- while, at a place within the text -/
theorem while_d {w0 : World} {s f at_ : Nat} {l : List UInt8} {A : Option Addr} {c : Nat} {ov bad : Value} {p : Int → Bool} (hf : Tells f p) (hcf : Ent f) (hl : l.length ≤ 1073741824) (h : w0.heap[s]? = some (row 91 [.slice A l.length c, .int .i64 at_, ov, bad]))
    (hT : Txt w0 [s] (.slice A l.length c) l) (hat : at_ ≤ l.length) :
    Calls Try.prog 61 #[.pointer (some ⟨s, 0, none⟩), .func (.func f) #[] #[]] w0 fun e w' => e = .returned (str ((l.drop at_).take (spanN p (l.drop at_)))) ∧ St w0 [s] [(s, row 91 [.slice A l.length c, .int .i64 ((at_ + spanN p (l.drop at_) : Nat) : Int), ov, bad])] w' :=
  while_c h hT hat hl hf hcf rfl
theorem span_at_le (p : Int → Bool) {l : List UInt8} {a : Nat} (h : a ≤ l.length) : a + spanN p (l.drop a) ≤ l.length := by
  have := spanN_le p (l.drop a)
  rw [List.length_drop] at this; omega
theorem span_at_end (p : Int → Bool) (l : List UInt8) (a : Nat) : holdsI p l (a + spanN p (l.drop a)) = false := by
  unfold holdsI
  split
  · rename_i x hx
    exact spanN_out p (l.drop a) x (by rw [List.getElem?_drop]; exact hx)
  · rfl

/-- from a to m, and no further -/
structure Upto (p : Int → Bool) (l : List UInt8) (a m : Nat) : Prop where
  eq : m = a + spanN p (l.drop a)
  le : m ≤ l.length
  fin : holdsI p l m = false
theorem while_e {w0 : World} {s at_ : Nat} {l : List UInt8} {A : Option Addr} {c : Nat} {ov bad : Value} (f : Nat) (p : Int → Bool) (hf : Tells f p) (hcf : Ent f) (hl : l.length ≤ 1073741824) (h : w0.heap[s]? = some (row 91 [.slice A l.length c, .int .i64 at_, ov, bad]))
    (hT : Txt w0 [s] (.slice A l.length c) l) (hat : at_ ≤ l.length) :
    Calls Try.prog 61 #[.pointer (some ⟨s, 0, none⟩), .func (.func f) #[] #[]] w0 fun e w' => ∃ m : Nat, Upto p l at_ m ∧ e = .returned (str ((l.drop at_).take (m - at_))) ∧ St w0 [s] [(s, row 91 [.slice A l.length c, .int .i64 m, ov, bad])] w' :=
  (while_d hf hcf hl h hT hat).mono fun e w' ⟨he, hs⟩ => ⟨_, ⟨rfl, span_at_le p hat, span_at_end p l at_⟩, by rw [he]; congr 3; omega, hs⟩
theorem is_e {w0 : World} {s at_ : Nat} {l : List UInt8} {A : Option Addr} {c : Nat} {ov bad : Value} {ch : Int} (b : Bool) (hb : nextI l at_ ch = b) (h : w0.heap[s]? = some (row 91 [.slice A l.length c, .int .i64 at_, ov, bad]))
    (hT : Txt w0 [s] (.slice A l.length c) l) : Calls Try.prog 63 #[.pointer (some ⟨s, 0, none⟩), .int .u8 ch] w0 fun e w' => e = .returned (.bool b) ∧ ∃ n, w' = w0.drewN n := by
  subst hb; exact is_c h hT

set_option maxHeartbeats 1000000 in
set_option maxRecDepth 4000 in
theorem skip_c {w0 : World} {s at_ : Nat} {l : List UInt8} {A : Option Addr} {c : Nat} {ov bad : Value} (h : w0.heap[s]? = some (row 91 [.slice A l.length c, .int .i64 at_, ov, bad]))
    (hT : Txt w0 [s] (.slice A l.length c) l) (hat : at_ ≤ l.length) (hl : l.length ≤ 1073741824) :
    Calls Try.prog 45 #[.pointer (some ⟨s, 0, none⟩)] w0 fun e w' => e = .returned (.tuple #[]) ∧ St w0 [s] [(s, row 91 [.slice A l.length c, .int .i64 ((at_ + skipN false (l.drop at_) : Nat) : Int), ov, bad])] w' := by
  have hs := St.start (w := w0) (H := [(s, row 91 [.slice A l.length c, .int .i64 at_, ov, bad])]) ⟨by simpa using h, by simp⟩
  clear h
  change St w0 [s] _ _ at hs
  obtain ⟨z, hz⟩ : ∃ z, at_ + skipN false (l.drop at_) = z := ⟨_, rfl⟩
  have hb := skipN_blank (l.drop at_)
  rw [List.drop_drop] at hb
  rw [hz]
  replace hz := hid hz
  replace hb := hid hb
  have hT1 := hid hT
  clear hT
  go_enter Try.func45, Try.ntmps45
  go_wp2_with (go_at_call 61; refine (while_e 62 blankI tells62 ent61 hl (hs.at 0 rfl) (hT1.out.via hs) hat).mono ?_; rintro e w ⟨m, hm, rfl, hs'⟩; replace hs := hs.trans hs'; clear hs')
  go_loopg [] (l.length - m) (fun g wr => ∃ m : Nat, m ≤ l.length ∧ g = l.length - m ∧ Hid (m + skipN false (l.drop m) = z) ∧ Hid (holdsI blankI l m = false) ∧ St w0 [s] [(s, row 91 [.slice A l.length c, .int .i64 m, ov, bad])] wr)
  case atStart => exact ⟨m, hm.le, rfl, hid (by have := hb.out; have := hz.out; obtain rfl := hm.eq; omega), hid hm.fin, hs⟩
  case round =>
    clear hs
    obtain ⟨k, hk, rfl, hkz, hkb, hs⟩ := hrel
    cases hsemi : nextI l k 59 with
    | false =>
      have hend := skipN_stop (l := l.drop k) (by rw [holdsI_drop]; exact hkb.out) (by rw [nextI_drop]; exact hsemi)
      have hkz' := hkz.out
      rw [hend] at hkz'
      obtain rfl : k = z := hkz'
      replace hsemi := hid hsemi
      clear hend
      go_wp2_with (go_at_call 63; refine (is_e false hsemi.out (hs.at 0 rfl) (hT1.out.via hs)).mono ?_; rintro e w ⟨rfl, hq⟩; replace hs := hs.quiet hq; clear hq)
      go_end0
      exact ⟨rfl, hs⟩
    | true =>
      have hlt := nextI_lt hsemi
      have hse := skipN_semi (l := l.drop k) (by rw [nextI_drop]; exact hsemi)
      rw [List.drop_drop] at hse
      have h1 : 1 ≤ spanN lineI (l.drop k) := by
        rcases Nat.eq_zero_or_pos (spanN lineI (l.drop k)) with h0 | h0
        · have := span_at_end lineI l k
          rw [h0, Nat.add_zero] at this
          obtain ⟨x, hx⟩ : ∃ x, l[k]? = some x := ⟨_, List.getElem?_eq_getElem hlt⟩
          have hx2 : (x.toNat : Int) = 59 := by simpa [nextI, hx] using hsemi
          simp [holdsI, hx, hx2, lineI] at this
        · exact h0
      replace hsemi := hid hsemi
      replace hse := hid hse
      replace h1 := hid h1
      go_wp2_with (first
        | (go_at_call 63; refine (is_e true hsemi.out (hs.at 0 rfl) (hT1.out.via hs)).mono ?_; rintro e w ⟨rfl, hq⟩; replace hs := hs.quiet hq; clear hq)
        | (go_at_call 61; first
          | (refine (while_e 64 lineI tells64 ent64 hl (hs.at 0 rfl) (hT1.out.via hs) hk).mono ?_; rintro e w ⟨m1, hm1, rfl, hs'⟩; replace hs := hs.trans hs'; clear hs')
          | (refine (while_e 62 blankI tells62 ent61 hl (hs.at 0 rfl) (hT1.out.via hs) hm1.le).mono ?_; rintro e w ⟨m2, hm2, rfl, hs'⟩; replace hs := hs.trans hs'; clear hs')))
      go_roundg (l.length - m2)
      case measure => have := hm2.eq; have := hm1.eq; have := h1.out; omega
      case rel => exact ⟨m2, hm2.le, rfl, hid (by
        have e1 := hse.out; have e2 := hkz.out; have e3 := hm1.eq; have e4 := hm2.eq
        have e5 := skipN_blank (l.drop m1)
        rw [List.drop_drop, ← e4] at e5
        rw [← e3] at e1
        omega), hid hm2.fin, hs⟩
end Go.Proofs.Ytclingkhdmhhoaa

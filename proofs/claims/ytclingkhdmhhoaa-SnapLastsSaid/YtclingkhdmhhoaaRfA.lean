/- The walks of the reference's functions that tell what a byte is, and of its Skip. No condition. -/
import Derived.Test.YtclingkhdmhhoaaLxX
namespace Go.Proofs.Ytclingkhdmhhoaa
open Go.RowKit
set_option linter.unusedSimpArgs false
set_option linter.unusedVariables false

theorem rblank_any (c : Int) (w : World) : Calls Try.prog 74 #[.int .u8 c] w fun e w' => e = .returned (.bool (blankI c)) ∧ w = w' := by
  generalize hb : blankI c = b
  replace hb := hid hb
  go_enter Try.func74, Try.ntmps74
  go_wp2
  all_goals
    go_ret
    exact ⟨ret_b (by rw [← hb.out]; simp [blankI, *] <;> (rw [Bool.eq_iff_iff]; simp; omega)), rfl⟩
theorem rdigit_any (c : Int) (w : World) : Calls Try.prog 77 #[.int .u8 c] w fun e w' => e = .returned (.bool (digitI c)) ∧ w = w' := by
  generalize hb : digitI c = b
  replace hb := hid hb
  go_enter Try.func77, Try.ntmps77
  go_wp2
  all_goals
    go_ret
    exact ⟨ret_b (by rw [← hb.out]; simp [digitI, *] <;> omega), rfl⟩
theorem rplain_any (c : Int) (w : World) : Calls Try.prog 75 #[.int .u8 c] w fun e w' => e = .returned (.bool (plainI c)) ∧ w = w' := by
  generalize hb : plainI c = b
  generalize hB : blankI c = B
  replace hb := hid hb
  replace hB := hid hB
  go_enter Try.func75, Try.ntmps75
  go_wp2_with (go_at_call 74; refine (rblank_any _ _).mono ?_; rintro e w' ⟨rfl, rfl⟩; rw [hB.out])
  all_goals
    go_ret
    exact ⟨ret_b (by rw [← hb.out, plainI, hB.out]; simp [*] <;> omega), rfl⟩
theorem mark_mem : ∀ x ∈ marks, markI (x.toNat : Int) = true := by decide
theorem mark_not {c : Int} (h : ∀ k x, k < 17 → marks[k]? = some x → (x.toNat : Int) ≠ c) : markI c = false := by
  have g : ∀ x ∈ marks, (x.toNat : Int) ≠ c := by
    intro x hx
    obtain ⟨k, hk⟩ := List.getElem?_of_mem hx
    exact h k x (by have := (List.getElem?_eq_some_iff.1 hk).1; exact this) hk
  simp only [marks, List.forall_mem_cons] at g
  obtain ⟨g1, g2, g3, g4, g5, g6, g7, g8, g9, g10, g11, g12, g13, g14, g15, g16, g17, _⟩ := g
  simp only [markI, Bool.or_eq_false_iff, beq_eq_false_iff_ne, and_assoc]
  refine ⟨fun h => g1 (by rw [h]; rfl), fun h => g2 (by rw [h]; rfl), fun h => g3 (by rw [h]; rfl), fun h => g4 (by rw [h]; rfl), fun h => g5 (by rw [h]; rfl), fun h => g6 (by rw [h]; rfl), fun h => g7 (by rw [h]; rfl), fun h => g8 (by rw [h]; rfl), fun h => g9 (by rw [h]; rfl), fun h => g10 (by rw [h]; rfl), fun h => g11 (by rw [h]; rfl), fun h => g12 (by rw [h]; rfl), fun h => g13 (by rw [h]; rfl), fun h => g14 (by rw [h]; rfl), fun h => g15 (by rw [h]; rfl), fun h => g16 (by rw [h]; rfl), fun h => g17 (by rw [h]; rfl)⟩
theorem rinner_any (c' : UInt8) (w : World) : Calls Try.prog 76 #[.int .u8 c'.toNat] w fun e w' => e = .returned (.bool (innerI c'.toNat)) ∧ w = w' := by
  have hlt : (c'.toNat : Int) < 256 := by have := c'.toNat_lt; omega
  generalize (c'.toNat : Int) = c at *
  have hb : innerI c = (digitI c || ((decide (97 ≤ c) && decide (c ≤ 122)) || (decide (65 ≤ c) && decide (c ≤ 90)) || markI c)) := rfl
  generalize innerI c = b at *
  generalize hB : digitI c = B at *
  replace hb := hid hb
  replace hB := hid hB
  go_enter Try.func76, Try.ntmps76
  go_wp2
  go_loop [4] (fun i => ∃ j : Nat, j ≤ 17 ∧ i = .int .i64 j ∧ Hid (∀ k x, k < j → marks[k]? = some x → (x.toNat : Int) ≠ c)) (fun i => 17 - (intOf i).toNat)
  case atStart => exact ⟨0, Nat.zero_le _, rfl, hid (by intro k x h; omega)⟩
  case round =>
    obtain ⟨j, hj, rfl, hno⟩ := hrel
    by_cases hlt : j < 17
    · obtain ⟨x, hx⟩ : ∃ x, marks[j]? = some x := ⟨_, List.getElem?_eq_getElem (by show j < 17; exact hlt)⟩
      have hsz : j < (⟨#[126, 33, 64, 36, 37, 94, 38, 42, 95, 45, 43, 61, 60, 62, 46, 63, 47]⟩ : ByteArray).size := hlt
      have hidx : (⟨#[126, 33, 64, 36, 37, 94, 38, 42, 95, 45, 43, 61, 60, 62, 46, 63, 47]⟩ : ByteArray)[j] = x := by
        have e1 : (⟨#[126, 33, 64, 36, 37, 94, 38, 42, 95, 45, 43, 61, 60, 62, 46, 63, 47]⟩ : ByteArray)[j] = marks[j]'hlt := rfl
        rw [e1]; exact (List.getElem?_eq_some_iff.1 hx).2
      cases hxc : ((x.toNat : Int) == c) with
      | true =>
        have hbt : b = true := by
          have e : (x.toNat : Int) = c := by simpa using hxc
          rw [hb.out, ← e, mark_mem x (List.mem_of_getElem? hx)]; simp
        subst hbt
        replace hx := hid hx
        clear hno
        go_wp2
        go_ret
        exact ⟨rfl, rfl⟩
      | false =>
        replace hx := hid hx
        go_wp2
        go_round
        case rel => exact ⟨j + 1, hlt, by go_num, hid (by
          intro k y hk hy
          rcases Nat.lt_or_ge k j with h | h
          · exact hno.out k y h hy
          · obtain rfl : k = j := by omega
            have := hx.out.symm.trans hy
            simp only [Option.some.injEq] at this
            subst this
            simpa using hxc)⟩
        case measure => simp [intOf]; omega
    · obtain rfl : j = 17 := by omega
      have hm : markI c = false := by
        cases hm : markI c with
        | false => rfl
        | true => exact absurd hm (by simp [mark_not hno.out])
      replace hm := hid hm
      clear hno
      go_wp2_with (go_at_call 77; refine (rdigit_any _ _).mono ?_; rintro e w' ⟨rfl, rfl⟩; rw [hB.out])
      all_goals
        go_ret
        exact ⟨ret_b (by rw [hb.out, hm.out, Bool.eq_iff_iff]; simp [*] <;> omega), rfl⟩

theorem Txt.bd {w : World} {D : List Nat} {v : Value} {l : List UInt8} (h : Txt w D v l) : ∃ A c, v = .slice A l.length c := by
  obtain ⟨A, c, h1, _⟩ := h
  exact ⟨A, c, h1⟩
theorem skip_cons {l : List UInt8} {m : Nat} {x : UInt8} (hx : l[m]? = some x) : l.drop m = x :: l.drop (m + 1) := by
  rw [List.drop_eq_getElem_cons (List.getElem?_eq_some_iff.1 hx).1, (List.getElem?_eq_some_iff.1 hx).2]
theorem quiet_st {w0 w : World} {D : List Nat} {H : List (Nat × Obj)} (h : St w0 D H w) (n : Nat) : Hid (St w0 D H (w.drewN n)) := hid (h.drewN n)

set_option maxHeartbeats 2000000 in
set_option maxRecDepth 4000 in
theorem rskip_any {w0 : World} {v : Value} {l : List UInt8} {p : Nat} (hT : Txt w0 [] v l) (hl : l.length ≤ 1048576) (hp : p ≤ l.length) :
    Calls Try.prog 47 #[v, .int .i64 p] w0 fun e w' => ∃ z : Nat, e = .returned (.int .i64 z) ∧ Hid (z = p + skipN false (l.drop p)) ∧ z ≤ l.length ∧ St w0 [] [] w' := by
  have hs := St.nothing w0
  obtain ⟨z, hz⟩ : ∃ z, p + skipN false (l.drop p) = z := ⟨_, rfl⟩
  obtain ⟨A, c, rfl⟩ := hT.bd
  replace hz := hid hz
  replace hT := hid hT
  go_enter Try.func47, Try.ntmps47
  go_wp2_with fail
  go_loopg [1] (l.length - p) (fun g iv wr => ∃ m : Nat, iv = .int .i64 m ∧ m ≤ l.length ∧ g = l.length - m ∧ Hid (m + skipN false (l.drop m) = z) ∧ St w0 [] [] wr)
  case atStart => exact ⟨p, rfl, hp, rfl, hz, hs⟩
  case round =>
    clear hs
    obtain ⟨m, rfl, hm, rfl, hmz, hs⟩ := hrel
    by_cases hlt : m < l.length
    · obtain ⟨x, hx⟩ : ∃ x, l[m]? = some x := ⟨_, List.getElem?_eq_getElem hlt⟩
      obtain ⟨b, o, rfl, hc⟩ := byte_at hT.out hs hx
      have q1 : decide (m < l.length) = true := by simpa using hlt
      have hdr := skip_cons hx
      have hsq := hid hs
      clear hs
      cases hbl : blankI x.toNat with
      | true =>
        have hmz2 : m + 1 + skipN false (l.drop (m + 1)) = z := by
          have := hmz.out
          rw [hdr] at this
          simp only [skipN, hbl, if_true] at this
          omega
        have h59 : ((x.toNat : Int) == 59) = false := by
          cases h : ((x.toNat : Int) == 59) with
          | false => rfl
          | true => have e : (x.toNat : Int) = 59 := by simpa using h
                    rw [e] at hbl; cases hbl
        replace hmz2 := hid hmz2
        replace hbl := hid hbl
        replace hx := hid hx
        replace hdr := hid hdr
        go_wp2_with (go_at_call 74; refine (rblank_any _ _).mono ?_; rintro e w' ⟨rfl, rfl⟩; rw [hbl.out])
        go_roundg (l.length - (m + 1))
        case measure => omega
        case rel => exact ⟨m + 1, by go_num, hlt, rfl, hmz2, hsq.out⟩
      | false =>
        cases h59 : ((x.toNat : Int) == 59) with
        | false =>
          have hmz2 : m = z := by
            have e1 := hmz.out
            have e2 : skipN false (l.drop m) = 0 := skipN_stop (by rw [holdsI_drop]; simp [holdsI, hx, hbl]) (by rw [nextI_drop]; simp [nextI, hx, h59])
            omega
          subst hmz2
          replace hbl := hid hbl
          replace hx := hid hx
          replace hdr := hid hdr
          go_wp2_with (go_at_call 74; refine (rblank_any _ _).mono ?_; rintro e w' ⟨rfl, rfl⟩; rw [hbl.out])
          go_ret
          exact ⟨m, rfl, hid hz.out.symm, hm, hsq.out⟩
        | true =>
          have hse := skipN_semi (l := l.drop m) (by rw [nextI_drop]; simp [nextI, hx, h59])
          have e59 : (x.toNat : Int) = 59 := by simpa using h59
          have hli : spanN lineI (l.drop m) = spanN lineI (l.drop (m + 1)) + 1 := by
            rw [hdr]; simp [spanN, e59, lineI]
          have hle := span_at_le lineI hm
          obtain ⟨y, hy⟩ : ∃ y, m + spanN lineI (l.drop m) = y := ⟨_, rfl⟩
          have hmz2 : y + skipN false (l.drop y) = z := by
            have := hmz.out
            rw [hse, List.drop_drop, hy] at this
            omega
          have hmy : m < y := by omega
          rw [hy] at hle
          replace hmz2 := hid hmz2
          replace hy := hid hy
          replace hli := hid hli
          replace hse := hid hse
          replace hbl := hid hbl
          replace hx := hid hx
          replace hdr := hid hdr
          replace e59 := hid e59
          have hmlt := hid hlt
          go_wp2_with (go_at_call 74; refine (rblank_any _ _).mono ?_; rintro e w' ⟨rfl, rfl⟩; rw [hbl.out])
          clear hc h59
          have hrow := hsq.out.frame
          clear hrow
          go_loopg [1] (l.length - m) (fun g iv wr => ∃ k : Nat, iv = .int .i64 k ∧ k ≤ l.length ∧ k ≤ y ∧ g = l.length - k ∧ Hid (k + spanN lineI (l.drop k) = y) ∧ St w0 [] [] wr)
          case atStart => exact ⟨m, rfl, hm, by omega, rfl, hy, hsq.out⟩
          case round =>
            clear hsq
            obtain ⟨k, rfl, hk, hky, rfl, hkz, hs⟩ := hrel
            by_cases hlt : k < l.length
            · obtain ⟨x, hx⟩ : ∃ x, l[k]? = some x := ⟨_, List.getElem?_eq_getElem hlt⟩
              obtain ⟨b, o, hbo, hc⟩ := byte_at hT.out hs hx
              cases hbo
              have hdr := skip_cons hx
              have hsq := hid hs
              clear hs
              cases hb10 : ((x.toNat : Int) == 10) with
              | true =>
                have e10 : (x.toNat : Int) = 10 := by simpa using hb10
                have hky2 : k = y := by
                  have := hkz.out
                  rw [hdr] at this
                  have e : lineI (x.toNat : Int) = false := by rw [e10]; rfl
                  simp only [spanN, e] at this
                  simpa using this
                subst hky2
                have q2 : ((x.toNat : Int) != 10) = false := by simp [bne, hb10]
                replace hx := hid hx
                replace hdr := hid hdr
                replace e10 := hid e10
                go_wp2_with fail
                go_roundg (l.length - k)
                case measure => omega
                case rel => exact ⟨k, rfl, hk, rfl, hmz2, hsq.out⟩
              | false =>
                have q2 : ((x.toNat : Int) != 10) = true := by simp [bne, hb10]
                have hkz2 : k + 1 + spanN lineI (l.drop (k + 1)) = y := by
                  have := hkz.out
                  rw [hdr] at this
                  have e : lineI (x.toNat : Int) = true := by simpa [lineI] using q2
                  simp only [spanN, e, if_true] at this
                  omega
                replace hkz2 := hid hkz2
                replace hx := hid hx
                replace hdr := hid hdr
                go_wp2_with fail
                go_roundg (l.length - (k + 1))
                case measure => omega
                case rel => exact ⟨k + 1, by go_num, hlt, by have := hkz2.out; omega, rfl, hkz2, hsq.out⟩
            · obtain rfl : k = l.length := by omega
              obtain rfl : l.length = y := by omega
              go_wp2_with fail
              go_roundg (l.length - l.length)
              case measure => omega
              case rel => exact ⟨l.length, rfl, hk, rfl, hmz2, hs⟩
    · obtain rfl : m = l.length := by omega
      have hzl : l.length = z := by
        have := hmz.out
        rw [List.drop_length] at this
        simpa [skipN] using this
      have hsq := hid hs
      clear hs
      replace hzl := hid hzl
      go_wp2_with fail
      go_ret
      exact ⟨l.length, rfl, hid (by rw [hz.out, hzl.out]), hm, hsq.out⟩
end Go.Proofs.Ytclingkhdmhhoaa

/- The walks of lex's reader: bytes that are so, one byte, where it is wrong. No condition. -/
import Derived.Test.YtclingkhdmhhoaaLxM
import Derived.Deep.LoopGhost
namespace Go.Proofs.Ytclingkhdmhhoaa
open Go.RowKit
set_option linter.unusedSimpArgs false
set_option linter.unusedVariables false

def Tok.cells (t : Tok) : List Value := [.int .i64 t.kind, str t.text, .int .i64 t.at_]
def tcells (ts : List Tok) : List Value := (ts.map Tok.cells).flatten
/-- where a reader is: the text, the place, what came out, where it is wrong -/
structure Sn where
  tv : Value
  l : List UInt8
  at_ : Nat
  out : List Tok
  bad : Int
def Scan (s : Nat) (k : Sn) (H : List (Nat × Obj)) : Prop :=
  ∃ ov CO, H = (s, row 91 [k.tv, .int .i64 k.at_, ov, .int .i64 k.bad]) :: CO ∧ Sl 54 3 ov k.out.length (tcells k.out) CO
/-- what a function that looks at a byte says -/
def Tells (f : Nat) (p : Int → Bool) : Prop := ∀ (c : UInt8) w, Calls Try.prog f #[.int .u8 c.toNat] w fun e w' => e = .returned (.bool (p c.toNat)) ∧ w = w'
def Ent (f : Nat) : Prop := ∀ args w, (callFunc f args).run Try.prog w = .ok (.enter f args) w
theorem head_of_drop {l : List UInt8} {a j : Nat} {c : UInt8} (h : (l.drop a)[j]? = some c) : l[a + j]? = some c := by simpa [List.getElem?_drop] using h

set_option maxHeartbeats 1000000 in
set_option maxRecDepth 4000 in
theorem while_c {w0 : World} {s f at_ n : Nat} {l : List UInt8} {A : Option Addr} {c : Nat} {ov bad : Value} {p : Int → Bool} (h : w0.heap[s]? = some (row 91 [.slice A l.length c, .int .i64 at_, ov, bad]))
    (hT : Txt w0 [s] (.slice A l.length c) l) (hat : at_ ≤ l.length) (hl : l.length ≤ 1073741824) (hf : Tells f p) (hcf : Ent f) (hn : spanN p (l.drop at_) = n) :
    Calls Try.prog 61 #[.pointer (some ⟨s, 0, none⟩), .func (.func f) #[] #[]] w0 fun e w' => e = .returned (str ((l.drop at_).take n)) ∧ St w0 [s] [(s, row 91 [.slice A l.length c, .int .i64 ((at_ + n : Nat) : Int), ov, bad])] w' := by
  have hs := St.start (w := w0) (H := [(s, row 91 [.slice A l.length c, .int .i64 at_, ov, bad])]) ⟨by simpa using h, by simp⟩
  have hnl := spanN_le p (l.drop at_)
  rw [hn, List.length_drop] at hnl
  have hin := fun j => spanN_in p (l.drop at_) j
  have hout := fun c => spanN_out p (l.drop at_) c
  rw [hn] at hin hout
  replace hin := hid hin
  replace hout := hid hout
  replace hn := hid hn
  change St w0 [s] _ _ at hs
  go_enter Try.func61, Try.ntmps61
  go_wp2_with (first
    | ((with_reducible refine gd_ld ?_); first | refine wl_of rfl (hs.ld 0 rfl rfl (sc_of rfl) rfl ?_)))
  go_loopg [] n (fun g wr => ∃ m : Nat, at_ ≤ m ∧ m ≤ at_ + n ∧ g = at_ + n - m ∧ St w0 [s] [(s, row 91 [.slice A l.length c, .int .i64 m, ov, bad])] wr)
  case atStart => exact ⟨at_, Nat.le_refl _, by omega, by omega, hs⟩
  case round =>
    clear hs
    obtain ⟨m, hm1, hm2, rfl, hs⟩ := hrel
    have c0 : wr.cell? ⟨s, 0, none⟩ = some (.slice A l.length c) := row_cell (hs.at 0 rfl) 0
    have c1 : wr.cell? ⟨s, 1, none⟩ = some (.int .i64 m) := row_cell (hs.at 0 rfl) 1
    have hs1 := hid hs
    have hT1 := hid hT
    clear hs h hT
    by_cases hlt : m < at_ + n
    · obtain ⟨x, hx, hpx⟩ := hin.out (m - at_) (by omega)
      obtain ⟨A', cc, e1, e2, e3, e4⟩ := hT1.out
      obtain ⟨rfl, -, rfl⟩ : A = A' ∧ l.length = l.length ∧ c = cc := by simpa using e1
      clear e1
      replace hx := head_of_drop hx
      rw [show at_ + (m - at_) = m by omega] at hx
      obtain ⟨b, o, rfl, hc⟩ := e4.at hs1.out hx
      have q1 : decide (m < l.length) = true := by simp; omega
      have q2 : m < l.length := by omega
      replace hx := hid hx
      replace hpx := hid hpx
      clear e4
      have hc2 : wr.cell? ⟨b, o + m, none⟩ = some (.int .u8 x.toNat) := hc
      clear hc
      have hcf' : ∀ args w, (callFunc f args).run Try.prog w = .ok (.enter f args) w := hcf
      go_wp2_with fail
      go_quiet ((exact Calls.quiet_of_same ((hf x _).mono fun _ _ h => ⟨h.1.trans (by rw [hpx.out]), h.2.symm⟩)))
      rename_i nq
      have hs := hs1.out.drewN nq
      clear c0 c1 hc2 q1
      have w1 : IntKind.i64.wrap ((m : Int) + 1) = ((m + 1 : Nat) : Int) := by rw [IntKind.wrap_i64]; omega
      go_wp2_with (first | ((with_reducible refine gd_ld ?_); first | refine wl_of rfl (hs.ld 0 rfl rfl (sc_of rfl) rfl ?_)) | ((with_reducible refine gd_st ?_); refine wl_of rfl (hs.st0 0 rfl rfl (sc_of rfl) rfl (by rfl) (Nat.le_of_ble_eq_true rfl) ?_); intro w hs))
      go_wp2_with fail
      go_roundg (at_ + n - (m + 1))
      case measure => omega
      case rel => exact ⟨m + 1, by omega, by omega, rfl, hs⟩
    · have hme := hid (show m = at_ + n by omega)
      have hcf' : ∀ args w, (callFunc f args).run Try.prog w = .ok (.enter f args) w := hcf
      by_cases hend : m < l.length
      · obtain ⟨x, hx⟩ : ∃ x, l[m]? = some x := ⟨_, List.getElem?_eq_getElem hend⟩
        have hpx := hout.out x (by rw [List.getElem?_drop, ← hme.out]; exact hx)
        obtain ⟨A', cc, e1, e2, e3, e4⟩ := hT1.out
        obtain ⟨rfl, -, rfl⟩ : A = A' ∧ l.length = l.length ∧ c = cc := by simpa using e1
        clear e1
        obtain ⟨b, o, rfl, hc⟩ := e4.at hs1.out hx
        have q1 : decide (m < l.length) = true := by simp; omega
        replace hx := hid hx
        replace hpx := hid hpx
        clear e4
        have hc2 : wr.cell? ⟨b, o + m, none⟩ = some (.int .u8 x.toNat) := hc
        clear hc
        go_wp2_with fail
        go_quiet ((exact Calls.quiet_of_same ((hf x _).mono fun _ _ h => ⟨h.1.trans (by rw [hpx.out]), h.2.symm⟩)))
        rename_i nq
        have hs := (hs1.out.drewN nq).drew
        clear c0 c1 hc2 q1
        go_wp2_with fail
        obtain ⟨v', hv1, hv2⟩ := run_txt_slice (hT1.out.via hs) (lo := at_) (hi := m) (by omega) (by omega) .i64 .i64
        have hv3 := run_txt_string hv2
        rw [show m - at_ = n by omega] at hv3
        replace hv1 := hid hv1
        replace hv3 := hid hv3
        refine wp_region_phases [] (fun _ => (wr.drewN nq).drew) follows (by kernel_rfl) (by kernel_rfl) rfl ?_
        refine LinP.pure rfl rfl (ex_move (ev rfl)) (pu rfl (by simp only [List.set_cons_succ, List.set_cons_zero]; rfl)) ?_
        refine LinP.pure rfl rfl (ex_nilCheck (ev rfl)) (pu rfl (by simp only [List.set_cons_succ, List.set_cons_zero]; rfl)) ?_
        refine LinP.pure rfl rfl (ex_fieldAddr fa91_0 (ev rfl)) (pu rfl (by simp only [List.set_cons_succ, List.set_cons_zero]; rfl)) ?_
        refine LinP.rd 0 rfl rfl (by kernel_rfl) (by kernel_rfl) (ex_ld_s (ev rfl) sc43 (row_cell (hs.at 0 rfl) 0)) (pu rfl (by simp only [List.set_cons_succ, List.set_cons_zero]; rfl)) ?_
        refine LinP.pure rfl rfl (ex_move (ev rfl)) (pu rfl (by simp only [List.set_cons_succ, List.set_cons_zero]; rfl)) ?_
        refine LinP.pure rfl rfl (ex_move (ev rfl)) (pu rfl (by simp only [List.set_cons_succ, List.set_cons_zero]; rfl)) ?_
        refine LinP.pure rfl rfl (ex_nilCheck (ev rfl)) (pu rfl (by simp only [List.set_cons_succ, List.set_cons_zero]; rfl)) ?_
        refine LinP.pure rfl rfl (ex_fieldAddr fa91_1 (ev rfl)) (pu rfl (by simp only [List.set_cons_succ, List.set_cons_zero]; rfl)) ?_
        refine LinP.rd 0 rfl rfl (by kernel_rfl) (by kernel_rfl) (ex_ld_s (ev rfl) sc3 (row_cell (hs.at 0 rfl) 1)) (pu rfl (by simp only [List.set_cons_succ, List.set_cons_zero]; rfl)) ?_
        refine LinP.rd 0 rfl rfl (by kernel_rfl) (by kernel_rfl) (ex_slc (ev rfl) (ev rfl) (ev rfl) hv1.out) (pu rfl (by simp only [List.set_cons_succ, List.set_cons_zero]; rfl)) ?_
        refine LinP.rd 0 rfl rfl (by kernel_rfl) (by kernel_rfl) (ex_cnv (ev rfl) hv3.out) (pu rfl (by simp only [List.set_cons_succ, List.set_cons_zero]; rfl)) ?_
        refine LinP.pure rfl rfl (ex_assign (ev rfl)) (pu rfl (by simp only [List.set_cons_succ, List.set_cons_zero]; rfl)) ?_
        refine LinP.done ?_
        go_wp2_with fail
        go_ret
        exact ⟨rfl, by rw [← hme.out]; exact hs⟩
      · have q1 : decide (m < l.length) = false := by simp; omega
        go_wp2_with fail
        go_quiet (fail)
        rename_i nq
        have hs := (hs1.out.drewN nq).drew
        clear c0 c1 q1
        go_wp2_with fail
        obtain ⟨v', hv1, hv2⟩ := run_txt_slice (hT1.out.via hs) (lo := at_) (hi := m) (by omega) (by omega) .i64 .i64
        have hv3 := run_txt_string hv2
        rw [show m - at_ = n by omega] at hv3
        replace hv1 := hid hv1
        replace hv3 := hid hv3
        refine wp_region_phases [] (fun _ => (wr.drewN nq).drew) follows (by kernel_rfl) (by kernel_rfl) rfl ?_
        refine LinP.pure rfl rfl (ex_move (ev rfl)) (pu rfl (by simp only [List.set_cons_succ, List.set_cons_zero]; rfl)) ?_
        refine LinP.pure rfl rfl (ex_nilCheck (ev rfl)) (pu rfl (by simp only [List.set_cons_succ, List.set_cons_zero]; rfl)) ?_
        refine LinP.pure rfl rfl (ex_fieldAddr fa91_0 (ev rfl)) (pu rfl (by simp only [List.set_cons_succ, List.set_cons_zero]; rfl)) ?_
        refine LinP.rd 0 rfl rfl (by kernel_rfl) (by kernel_rfl) (ex_ld_s (ev rfl) sc43 (row_cell (hs.at 0 rfl) 0)) (pu rfl (by simp only [List.set_cons_succ, List.set_cons_zero]; rfl)) ?_
        refine LinP.pure rfl rfl (ex_move (ev rfl)) (pu rfl (by simp only [List.set_cons_succ, List.set_cons_zero]; rfl)) ?_
        refine LinP.pure rfl rfl (ex_move (ev rfl)) (pu rfl (by simp only [List.set_cons_succ, List.set_cons_zero]; rfl)) ?_
        refine LinP.pure rfl rfl (ex_nilCheck (ev rfl)) (pu rfl (by simp only [List.set_cons_succ, List.set_cons_zero]; rfl)) ?_
        refine LinP.pure rfl rfl (ex_fieldAddr fa91_1 (ev rfl)) (pu rfl (by simp only [List.set_cons_succ, List.set_cons_zero]; rfl)) ?_
        refine LinP.rd 0 rfl rfl (by kernel_rfl) (by kernel_rfl) (ex_ld_s (ev rfl) sc3 (row_cell (hs.at 0 rfl) 1)) (pu rfl (by simp only [List.set_cons_succ, List.set_cons_zero]; rfl)) ?_
        refine LinP.rd 0 rfl rfl (by kernel_rfl) (by kernel_rfl) (ex_slc (ev rfl) (ev rfl) (ev rfl) hv1.out) (pu rfl (by simp only [List.set_cons_succ, List.set_cons_zero]; rfl)) ?_
        refine LinP.rd 0 rfl rfl (by kernel_rfl) (by kernel_rfl) (ex_cnv (ev rfl) hv3.out) (pu rfl (by simp only [List.set_cons_succ, List.set_cons_zero]; rfl)) ?_
        refine LinP.pure rfl rfl (ex_assign (ev rfl)) (pu rfl (by simp only [List.set_cons_succ, List.set_cons_zero]; rfl)) ?_
        refine LinP.done ?_
        go_wp2_with fail
        go_ret
        exact ⟨rfl, by rw [← hme.out]; exact hs⟩
end Go.Proofs.Ytclingkhdmhhoaa

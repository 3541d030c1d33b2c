/- The walks of lex's reader: the next token; a text. No condition. -/
import Derived.Test.YtclingkhdmhhoaaLxG
namespace Go.Proofs.Ytclingkhdmhhoaa
open Go.RowKit
set_option linter.unusedSimpArgs false
set_option linter.unusedVariables false

theorem Ready.st {w0 : World} {s p c : Nat} {l : List UInt8} {A : Option Addr} {ov : Value} {bad : Int} {out : List Tok} {CO : List (Nat × Obj)} (h : Ready w0 s l A c p ov bad out CO) : St w0 (s :: keys CO) ([(s, row 91 [.slice A l.length c, .int .i64 p, ov, .int .i64 bad])] ++ CO) w0 := St.start h.has
theorem Ready.at {w0 w : World} {s p c : Nat} {l : List UInt8} {A : Option Addr} {ov : Value} {bad : Int} {out : List Tok} {CO : List (Nat × Obj)} (h : Ready w0 s l A c p ov bad out CO) (hs : St w0 (s :: keys CO) ([(s, row 91 [.slice A l.length c, .int .i64 p, ov, .int .i64 bad])] ++ CO) w) : Ready w s l A c p ov bad out CO :=
  ⟨hs.has, h.txt.via hs, h.own, h.lt, h.len, h.num⟩
theorem TokPost.base {w0 w : World} {s p c : Nat} {l : List UInt8} {A : Option Addr} {ov : Value} {bad : Int} {out : List Tok} {CO : List (Nat × Obj)} {r : Except Nat (Int × List UInt8 × Nat)} {e : Ending} {w' : World} (hs : St w0 (s :: keys CO) ([(s, row 91 [.slice A l.length c, .int .i64 p, ov, .int .i64 bad])] ++ CO) w)
    (h : TokPost w s (.slice A l.length c) ov bad out CO p r e w') : TokPost w0 s (.slice A l.length c) ov bad out CO p r e w' := by
  obtain ⟨he, h⟩ := h
  refine ⟨he, ?_⟩
  cases r with
  | ok x =>
    obtain ⟨kd, t, m⟩ := x
    obtain ⟨ov', CO', h1, h2⟩ := h
    exact ⟨ov', CO', h1, hs.trans h2⟩
  | error k =>
    obtain ⟨a, h⟩ := h
    exact ⟨a, hs.trans h⟩

theorem number_c {w0 : World} {s p c : Nat} {l : List UInt8} {A : Option Addr} {ov : Value} {bad : Int} {out : List Tok} {CO : List (Nat × Obj)} (h : Ready w0 s l A c p ov bad out CO) :
    Calls Try.prog 69 #[.pointer (some ⟨s, 0, none⟩), .int .i64 p] w0 (TokPost w0 s (.slice A l.length c) ov bad out CO p (numL (l.drop p))) := by
  unfold numL
  rw [nextI_drop, nextI_drop, List.drop_drop]
  by_cases hz : 1 < spanN digitI (l.drop p) ∧ nextI l (p + 0) 48 = true
  · rw [if_pos hz]
    exact num_zero h hz.1 hz.2
  · rw [if_neg hz]
    cases hd : nextI l (p + spanN digitI (l.drop p)) 46 with
    | false =>
      rw [if_neg (by simp)]
      exact num_int h hz hd
    | true =>
      rw [if_pos rfl]
      by_cases h0 : spanN digitI (l.drop (p + (spanN digitI (l.drop p) + 1))) = 0
      · rw [if_pos h0]
        exact num_dot h hz hd h0
      · rw [if_neg h0]
        exact num_dec h hz hd h0

theorem ex_mf {P : Program} {ρ : Operand → Value} {dst : Option Tmp} {t : TypeId} {pos : String} {aft : Array Edge} {g : Option (Nat × Bool)} {fn : Fn} {x : Operand} {v : Value} (hx : ρ x = v) (w : World) :
    (execOp ρ ⟨dst, .makeFunc fn #[x] #[], t, pos, aft, g⟩).run P w = .ok (.value (.func fn #[v] #[])) w := by
  simp [execOp, Instr.makeFunc, hx]

def TokTo (w0 : World) (s : Nat) (tv ov : Value) (bad : Int) (out : List Tok) (CO : List (Nat × Obj)) (p : Nat) (r : Except Nat (Int × List UInt8 × Nat)) (w' : World) : Prop := TokPost w0 s tv ov bad out CO p r (.returned (.tuple #[])) w'
theorem TokPost.to {w0 : World} {s : Nat} {tv ov : Value} {bad : Int} {out : List Tok} {CO : List (Nat × Obj)} {p : Nat} {r : Except Nat (Int × List UInt8 × Nat)} {e : Ending} {w' : World} (h : TokPost w0 s tv ov bad out CO p r e w') :
    e = .returned (.tuple #[]) ∧ TokTo w0 s tv ov bad out CO p r w' := by
  have he := h.1
  subst he
  exact ⟨rfl, h⟩
set_option maxHeartbeats 2000000 in
set_option maxRecDepth 4000 in
theorem next_c {w0 : World} {s p c : Nat} {l : List UInt8} {A : Option Addr} {ov : Value} {bad : Int} {out : List Tok} {CO : List (Nat × Obj)} (h : Ready w0 s l A c p ov bad out CO) :
    Calls Try.prog 46 #[.pointer (some ⟨s, 0, none⟩)] w0 (TokPost w0 s (.slice A l.length c) ov bad out CO p (tokL (l.drop p))) := by
  have hlt := h.lt
  have hlt2 : p < 1048577 := by have := h.len; omega
  obtain ⟨x, hx⟩ : ∃ x, l[p]? = some x := ⟨_, List.getElem?_eq_getElem hlt⟩
  have hs := h.st.drew
  obtain ⟨b, o, rfl, hc⟩ := byte_at h.txt hs hx
  rw [tok_of hx]
  have hq := hid h
  generalize hR : tokC x (l.drop (p + 1)) = R
  unfold tokC at hR
  have hnum : tokL (l.drop p) = tokC x (l.drop (p + 1)) := tok_of hx
  have hdr : l.drop p = x :: l.drop (p + 1) := by rw [List.drop_eq_getElem_cons hlt, (List.getElem?_eq_some_iff.1 hx).2]
  have hnx : ∀ ch, nextI l p ch = ((x.toNat : Int) == ch) := fun ch => by simp [nextI, hx]
  have hlet := letter_any x
  clear h hnum
  replace hlet := hid hlet
  have hq := hid (hq.out.at hs)
  replace hdr := hid hdr
  replace hnx := hid hnx
  replace hx := hid hx
  by_cases h40 : (x.toNat : Int) = 40
  · rw [if_pos h40] at hR
    have hlet := hlet.out
    rw [h40] at hc
    rw [h40] at hlet
    replace hlet := hid hlet
    have hdg := hid (show digitI 40 = false from rfl)
    have hlt8 := hid (show letterI 40 = false from rfl)
    replace h40 := hid h40
    replace hR := hid hR
    go_enter Try.func46, Try.ntmps46
    go_wp2_with fail
    refine wp_region_phases [] (fun _ => w0.drew) follows (by kernel_rfl) (by kernel_rfl) rfl ?_
    refine LinP.pure rfl rfl (ex_move (ev rfl)) (pu rfl (by simp only [List.set_cons_succ, List.set_cons_zero]; rfl)) ?_
    refine LinP.pure rfl rfl (ex_nilCheck (ev rfl)) (pu rfl (by simp only [List.set_cons_succ, List.set_cons_zero]; rfl)) ?_
    refine LinP.pure rfl rfl (ex_fieldAddr fa91_0 (ev rfl)) (pu rfl (by simp only [List.set_cons_succ, List.set_cons_zero]; rfl)) ?_
    refine LinP.rd 0 rfl rfl (by kernel_rfl) (by kernel_rfl) (ex_ld_s (ev rfl) sc43 (row_cell (hs.at 0 rfl) 0)) (pu rfl (by simp only [List.set_cons_succ, List.set_cons_zero]; rfl)) ?_
    refine LinP.pure rfl rfl (ex_move (ev rfl)) (pu rfl (by simp only [List.set_cons_succ, List.set_cons_zero]; rfl)) ?_
    refine LinP.pure rfl rfl (ex_nilCheck (ev rfl)) (pu rfl (by simp only [List.set_cons_succ, List.set_cons_zero]; rfl)) ?_
    refine LinP.pure rfl rfl (ex_fieldAddr fa91_1 (ev rfl)) (pu rfl (by simp only [List.set_cons_succ, List.set_cons_zero]; rfl)) ?_
    refine LinP.rd 0 rfl rfl (by kernel_rfl) (by kernel_rfl) (ex_ld_s (ev rfl) sc3 (row_cell (hs.at 0 rfl) 1)) (pu rfl (by simp only [List.set_cons_succ, List.set_cons_zero]; rfl)) ?_
    refine LinP.pure rfl rfl (ex_indexAddr st43 (ev rfl) (ev rfl) hlt) (pu rfl (by simp only [List.set_cons_succ, List.set_cons_zero]; rfl)) ?_
    refine LinP.rd 0 rfl rfl (by kernel_rfl) (by kernel_rfl) (ex_ld_s (ev rfl) sc5 (by rw [Nat.mul_one]; exact hc)) (pu rfl (by simp only [List.set_cons_succ, List.set_cons_zero]; rfl)) ?_
    refine LinP.pure rfl rfl (ex_move (ev rfl)) (pu rfl (by simp only [List.set_cons_succ, List.set_cons_zero]; rfl)) ?_
    refine LinP.pure rfl rfl (ex_mf (ev rfl)) (pu rfl (by simp only [List.set_cons_succ, List.set_cons_zero]; rfl)) ?_
    refine LinP.pure rfl rfl (ex_assign (ev rfl)) (pu rfl (by simp only [List.set_cons_succ, List.set_cons_zero]; rfl)) ?_
    refine LinP.pure rfl rfl (ex_assign (ev rfl)) (pu rfl (by simp only [List.set_cons_succ, List.set_cons_zero]; rfl)) ?_
    refine LinP.done ?_
    go_wp2_with (first
      | ((with_reducible refine gd_ld ?_); first | refine wl_of rfl (hs.ld 0 rfl rfl (sc_of rfl) rfl ?_))
      | (go_at_call 68; refine (digit_any _ _).mono ?_; rintro e w' ⟨rfl, rfl⟩; rw [hdg.out])
      | (go_at_call 72; refine (hlet.out _).mono ?_; rintro e w' ⟨rfl, rfl⟩; rw [hlt8.out])
      | (go_at_call 66; refine (paren_c hq.out hx.out R (.inl h40.out) (by rw [if_pos h40.out]; exact hR.out)).mono ?_; rintro e w hpost; obtain ⟨rfl, hpost⟩ := hpost.to; replace hpost := hid hpost))
    go_end0
    exact TokPost.base hs hpost.out
  rw [if_neg h40] at hR
  by_cases h41 : (x.toNat : Int) = 41
  · rw [if_pos h41] at hR
    have hlet := hlet.out
    rw [h41] at hc
    rw [h41] at hlet
    replace hlet := hid hlet
    have hdg := hid (show digitI 41 = false from rfl)
    have hlt8 := hid (show letterI 41 = false from rfl)
    replace h41 := hid h41
    replace hR := hid hR
    go_enter Try.func46, Try.ntmps46
    go_wp2_with fail
    refine wp_region_phases [] (fun _ => w0.drew) follows (by kernel_rfl) (by kernel_rfl) rfl ?_
    refine LinP.pure rfl rfl (ex_move (ev rfl)) (pu rfl (by simp only [List.set_cons_succ, List.set_cons_zero]; rfl)) ?_
    refine LinP.pure rfl rfl (ex_nilCheck (ev rfl)) (pu rfl (by simp only [List.set_cons_succ, List.set_cons_zero]; rfl)) ?_
    refine LinP.pure rfl rfl (ex_fieldAddr fa91_0 (ev rfl)) (pu rfl (by simp only [List.set_cons_succ, List.set_cons_zero]; rfl)) ?_
    refine LinP.rd 0 rfl rfl (by kernel_rfl) (by kernel_rfl) (ex_ld_s (ev rfl) sc43 (row_cell (hs.at 0 rfl) 0)) (pu rfl (by simp only [List.set_cons_succ, List.set_cons_zero]; rfl)) ?_
    refine LinP.pure rfl rfl (ex_move (ev rfl)) (pu rfl (by simp only [List.set_cons_succ, List.set_cons_zero]; rfl)) ?_
    refine LinP.pure rfl rfl (ex_nilCheck (ev rfl)) (pu rfl (by simp only [List.set_cons_succ, List.set_cons_zero]; rfl)) ?_
    refine LinP.pure rfl rfl (ex_fieldAddr fa91_1 (ev rfl)) (pu rfl (by simp only [List.set_cons_succ, List.set_cons_zero]; rfl)) ?_
    refine LinP.rd 0 rfl rfl (by kernel_rfl) (by kernel_rfl) (ex_ld_s (ev rfl) sc3 (row_cell (hs.at 0 rfl) 1)) (pu rfl (by simp only [List.set_cons_succ, List.set_cons_zero]; rfl)) ?_
    refine LinP.pure rfl rfl (ex_indexAddr st43 (ev rfl) (ev rfl) hlt) (pu rfl (by simp only [List.set_cons_succ, List.set_cons_zero]; rfl)) ?_
    refine LinP.rd 0 rfl rfl (by kernel_rfl) (by kernel_rfl) (ex_ld_s (ev rfl) sc5 (by rw [Nat.mul_one]; exact hc)) (pu rfl (by simp only [List.set_cons_succ, List.set_cons_zero]; rfl)) ?_
    refine LinP.pure rfl rfl (ex_move (ev rfl)) (pu rfl (by simp only [List.set_cons_succ, List.set_cons_zero]; rfl)) ?_
    refine LinP.pure rfl rfl (ex_mf (ev rfl)) (pu rfl (by simp only [List.set_cons_succ, List.set_cons_zero]; rfl)) ?_
    refine LinP.pure rfl rfl (ex_assign (ev rfl)) (pu rfl (by simp only [List.set_cons_succ, List.set_cons_zero]; rfl)) ?_
    refine LinP.pure rfl rfl (ex_assign (ev rfl)) (pu rfl (by simp only [List.set_cons_succ, List.set_cons_zero]; rfl)) ?_
    refine LinP.done ?_
    go_wp2_with (first
      | ((with_reducible refine gd_ld ?_); first | refine wl_of rfl (hs.ld 0 rfl rfl (sc_of rfl) rfl ?_))
      | (go_at_call 68; refine (digit_any _ _).mono ?_; rintro e w' ⟨rfl, rfl⟩; rw [hdg.out])
      | (go_at_call 72; refine (hlet.out _).mono ?_; rintro e w' ⟨rfl, rfl⟩; rw [hlt8.out])
      | (go_at_call 66; refine (paren_c hq.out hx.out R (.inr h41.out) (by rw [if_neg h40]; exact hR.out)).mono ?_; rintro e w hpost; obtain ⟨rfl, hpost⟩ := hpost.to; replace hpost := hid hpost))
    go_end0
    exact TokPost.base hs hpost.out
  rw [if_neg h41] at hR
  by_cases h124 : (x.toNat : Int) = 124
  · rw [if_pos h124] at hR
    have hlet := hlet.out
    rw [h124] at hc
    rw [h124] at hlet
    replace hlet := hid hlet
    have hdg := hid (show digitI 124 = false from rfl)
    have hlt8 := hid (show letterI 124 = false from rfl)
    replace h124 := hid h124
    replace hR := hid hR
    go_enter Try.func46, Try.ntmps46
    go_wp2_with fail
    refine wp_region_phases [] (fun _ => w0.drew) follows (by kernel_rfl) (by kernel_rfl) rfl ?_
    refine LinP.pure rfl rfl (ex_move (ev rfl)) (pu rfl (by simp only [List.set_cons_succ, List.set_cons_zero]; rfl)) ?_
    refine LinP.pure rfl rfl (ex_nilCheck (ev rfl)) (pu rfl (by simp only [List.set_cons_succ, List.set_cons_zero]; rfl)) ?_
    refine LinP.pure rfl rfl (ex_fieldAddr fa91_0 (ev rfl)) (pu rfl (by simp only [List.set_cons_succ, List.set_cons_zero]; rfl)) ?_
    refine LinP.rd 0 rfl rfl (by kernel_rfl) (by kernel_rfl) (ex_ld_s (ev rfl) sc43 (row_cell (hs.at 0 rfl) 0)) (pu rfl (by simp only [List.set_cons_succ, List.set_cons_zero]; rfl)) ?_
    refine LinP.pure rfl rfl (ex_move (ev rfl)) (pu rfl (by simp only [List.set_cons_succ, List.set_cons_zero]; rfl)) ?_
    refine LinP.pure rfl rfl (ex_nilCheck (ev rfl)) (pu rfl (by simp only [List.set_cons_succ, List.set_cons_zero]; rfl)) ?_
    refine LinP.pure rfl rfl (ex_fieldAddr fa91_1 (ev rfl)) (pu rfl (by simp only [List.set_cons_succ, List.set_cons_zero]; rfl)) ?_
    refine LinP.rd 0 rfl rfl (by kernel_rfl) (by kernel_rfl) (ex_ld_s (ev rfl) sc3 (row_cell (hs.at 0 rfl) 1)) (pu rfl (by simp only [List.set_cons_succ, List.set_cons_zero]; rfl)) ?_
    refine LinP.pure rfl rfl (ex_indexAddr st43 (ev rfl) (ev rfl) hlt) (pu rfl (by simp only [List.set_cons_succ, List.set_cons_zero]; rfl)) ?_
    refine LinP.rd 0 rfl rfl (by kernel_rfl) (by kernel_rfl) (ex_ld_s (ev rfl) sc5 (by rw [Nat.mul_one]; exact hc)) (pu rfl (by simp only [List.set_cons_succ, List.set_cons_zero]; rfl)) ?_
    refine LinP.pure rfl rfl (ex_move (ev rfl)) (pu rfl (by simp only [List.set_cons_succ, List.set_cons_zero]; rfl)) ?_
    refine LinP.pure rfl rfl (ex_mf (ev rfl)) (pu rfl (by simp only [List.set_cons_succ, List.set_cons_zero]; rfl)) ?_
    refine LinP.pure rfl rfl (ex_assign (ev rfl)) (pu rfl (by simp only [List.set_cons_succ, List.set_cons_zero]; rfl)) ?_
    refine LinP.pure rfl rfl (ex_assign (ev rfl)) (pu rfl (by simp only [List.set_cons_succ, List.set_cons_zero]; rfl)) ?_
    refine LinP.done ?_
    go_wp2_with (first
      | ((with_reducible refine gd_ld ?_); first | refine wl_of rfl (hs.ld 0 rfl rfl (sc_of rfl) rfl ?_))
      | (go_at_call 68; refine (digit_any _ _).mono ?_; rintro e w' ⟨rfl, rfl⟩; rw [hdg.out])
      | (go_at_call 72; refine (hlet.out _).mono ?_; rintro e w' ⟨rfl, rfl⟩; rw [hlt8.out])
      | (go_at_call 67; refine (quoted_c hq.out R hR.out).mono ?_; rintro e w hpost; obtain ⟨rfl, hpost⟩ := hpost.to; replace hpost := hid hpost))
    go_end0
    exact TokPost.base hs hpost.out
  rw [if_neg h124] at hR
  by_cases hdig : digitI x.toNat = true
  · rw [if_pos hdig, ← hdr.out] at hR
    have hdg := hid hdig
    have hlt8 := hid (show (true = true) from rfl)
    clear hdig
    replace hR := hid hR
    have k40 : ((x.toNat : Int) == 40) = false := by simpa using h40
    have k41 : ((x.toNat : Int) == 41) = false := by simpa using h41
    have k124 : ((x.toNat : Int) == 124) = false := by simpa using h124
    clear h40 h41 h124
    go_enter Try.func46, Try.ntmps46
    go_wp2_with fail
    refine wp_region_phases [] (fun _ => w0.drew) follows (by kernel_rfl) (by kernel_rfl) rfl ?_
    refine LinP.pure rfl rfl (ex_move (ev rfl)) (pu rfl (by simp only [List.set_cons_succ, List.set_cons_zero]; rfl)) ?_
    refine LinP.pure rfl rfl (ex_nilCheck (ev rfl)) (pu rfl (by simp only [List.set_cons_succ, List.set_cons_zero]; rfl)) ?_
    refine LinP.pure rfl rfl (ex_fieldAddr fa91_0 (ev rfl)) (pu rfl (by simp only [List.set_cons_succ, List.set_cons_zero]; rfl)) ?_
    refine LinP.rd 0 rfl rfl (by kernel_rfl) (by kernel_rfl) (ex_ld_s (ev rfl) sc43 (row_cell (hs.at 0 rfl) 0)) (pu rfl (by simp only [List.set_cons_succ, List.set_cons_zero]; rfl)) ?_
    refine LinP.pure rfl rfl (ex_move (ev rfl)) (pu rfl (by simp only [List.set_cons_succ, List.set_cons_zero]; rfl)) ?_
    refine LinP.pure rfl rfl (ex_nilCheck (ev rfl)) (pu rfl (by simp only [List.set_cons_succ, List.set_cons_zero]; rfl)) ?_
    refine LinP.pure rfl rfl (ex_fieldAddr fa91_1 (ev rfl)) (pu rfl (by simp only [List.set_cons_succ, List.set_cons_zero]; rfl)) ?_
    refine LinP.rd 0 rfl rfl (by kernel_rfl) (by kernel_rfl) (ex_ld_s (ev rfl) sc3 (row_cell (hs.at 0 rfl) 1)) (pu rfl (by simp only [List.set_cons_succ, List.set_cons_zero]; rfl)) ?_
    refine LinP.pure rfl rfl (ex_indexAddr st43 (ev rfl) (ev rfl) hlt) (pu rfl (by simp only [List.set_cons_succ, List.set_cons_zero]; rfl)) ?_
    refine LinP.rd 0 rfl rfl (by kernel_rfl) (by kernel_rfl) (ex_ld_s (ev rfl) sc5 (by rw [Nat.mul_one]; exact hc)) (pu rfl (by simp only [List.set_cons_succ, List.set_cons_zero]; rfl)) ?_
    refine LinP.pure rfl rfl (ex_move (ev rfl)) (pu rfl (by simp only [List.set_cons_succ, List.set_cons_zero]; rfl)) ?_
    refine LinP.pure rfl rfl (ex_mf (ev rfl)) (pu rfl (by simp only [List.set_cons_succ, List.set_cons_zero]; rfl)) ?_
    refine LinP.pure rfl rfl (ex_assign (ev rfl)) (pu rfl (by simp only [List.set_cons_succ, List.set_cons_zero]; rfl)) ?_
    refine LinP.pure rfl rfl (ex_assign (ev rfl)) (pu rfl (by simp only [List.set_cons_succ, List.set_cons_zero]; rfl)) ?_
    refine LinP.done ?_
    go_wp2_with (first
      | ((with_reducible refine gd_ld ?_); first | refine wl_of rfl (hs.ld 0 rfl rfl (sc_of rfl) rfl ?_))
      | (go_at_call 68; refine (digit_any _ _).mono ?_; rintro e w' ⟨rfl, rfl⟩; rw [hdg.out])
      | (go_at_call 72; refine (hlet.out _).mono ?_; rintro e w' ⟨rfl, rfl⟩; rw [hlt8.out])
      | (go_at_call 69; refine ((number_c hq.out)).mono ?_; rintro e w hpost; obtain ⟨rfl, hpost⟩ := hpost.to; replace hpost := hid hpost))
    go_end0
    rw [← hR.out]; exact TokPost.base hs hpost.out
  rw [if_neg hdig] at hR
  have hdg0 : digitI x.toNat = false := by simpa using hdig
  clear hdig
  by_cases h58 : (x.toNat : Int) = 58
  · rw [if_pos h58] at hR
    have hlet := hlet.out
    clear hdg0
    rw [h58] at hc
    rw [h58] at hlet
    replace hlet := hid hlet
    have hdg := hid (show digitI 58 = false from rfl)
    have hlt8 := hid (show letterI 58 = false from rfl)
    replace h58 := hid h58
    replace hR := hid hR
    go_enter Try.func46, Try.ntmps46
    go_wp2_with fail
    refine wp_region_phases [] (fun _ => w0.drew) follows (by kernel_rfl) (by kernel_rfl) rfl ?_
    refine LinP.pure rfl rfl (ex_move (ev rfl)) (pu rfl (by simp only [List.set_cons_succ, List.set_cons_zero]; rfl)) ?_
    refine LinP.pure rfl rfl (ex_nilCheck (ev rfl)) (pu rfl (by simp only [List.set_cons_succ, List.set_cons_zero]; rfl)) ?_
    refine LinP.pure rfl rfl (ex_fieldAddr fa91_0 (ev rfl)) (pu rfl (by simp only [List.set_cons_succ, List.set_cons_zero]; rfl)) ?_
    refine LinP.rd 0 rfl rfl (by kernel_rfl) (by kernel_rfl) (ex_ld_s (ev rfl) sc43 (row_cell (hs.at 0 rfl) 0)) (pu rfl (by simp only [List.set_cons_succ, List.set_cons_zero]; rfl)) ?_
    refine LinP.pure rfl rfl (ex_move (ev rfl)) (pu rfl (by simp only [List.set_cons_succ, List.set_cons_zero]; rfl)) ?_
    refine LinP.pure rfl rfl (ex_nilCheck (ev rfl)) (pu rfl (by simp only [List.set_cons_succ, List.set_cons_zero]; rfl)) ?_
    refine LinP.pure rfl rfl (ex_fieldAddr fa91_1 (ev rfl)) (pu rfl (by simp only [List.set_cons_succ, List.set_cons_zero]; rfl)) ?_
    refine LinP.rd 0 rfl rfl (by kernel_rfl) (by kernel_rfl) (ex_ld_s (ev rfl) sc3 (row_cell (hs.at 0 rfl) 1)) (pu rfl (by simp only [List.set_cons_succ, List.set_cons_zero]; rfl)) ?_
    refine LinP.pure rfl rfl (ex_indexAddr st43 (ev rfl) (ev rfl) hlt) (pu rfl (by simp only [List.set_cons_succ, List.set_cons_zero]; rfl)) ?_
    refine LinP.rd 0 rfl rfl (by kernel_rfl) (by kernel_rfl) (ex_ld_s (ev rfl) sc5 (by rw [Nat.mul_one]; exact hc)) (pu rfl (by simp only [List.set_cons_succ, List.set_cons_zero]; rfl)) ?_
    refine LinP.pure rfl rfl (ex_move (ev rfl)) (pu rfl (by simp only [List.set_cons_succ, List.set_cons_zero]; rfl)) ?_
    refine LinP.pure rfl rfl (ex_mf (ev rfl)) (pu rfl (by simp only [List.set_cons_succ, List.set_cons_zero]; rfl)) ?_
    refine LinP.pure rfl rfl (ex_assign (ev rfl)) (pu rfl (by simp only [List.set_cons_succ, List.set_cons_zero]; rfl)) ?_
    refine LinP.pure rfl rfl (ex_assign (ev rfl)) (pu rfl (by simp only [List.set_cons_succ, List.set_cons_zero]; rfl)) ?_
    refine LinP.done ?_
    go_wp2_with (first
      | ((with_reducible refine gd_ld ?_); first | refine wl_of rfl (hs.ld 0 rfl rfl (sc_of rfl) rfl ?_))
      | (go_at_call 68; refine (digit_any _ _).mono ?_; rintro e w' ⟨rfl, rfl⟩; rw [hdg.out])
      | (go_at_call 72; refine (hlet.out _).mono ?_; rintro e w' ⟨rfl, rfl⟩; rw [hlt8.out])
      | (go_at_call 70; refine (key_c hq.out R hR.out).mono ?_; rintro e w hpost; obtain ⟨rfl, hpost⟩ := hpost.to; replace hpost := hid hpost))
    go_end0
    exact TokPost.base hs hpost.out
  rw [if_neg h58] at hR
  by_cases h34 : (x.toNat : Int) = 34
  · rw [if_pos h34] at hR
    have hlet := hlet.out
    clear hdg0
    rw [h34] at hc
    rw [h34] at hlet
    replace hlet := hid hlet
    have hdg := hid (show digitI 34 = false from rfl)
    have hlt8 := hid (show letterI 34 = false from rfl)
    replace h34 := hid h34
    replace hR := hid hR
    go_enter Try.func46, Try.ntmps46
    go_wp2_with fail
    refine wp_region_phases [] (fun _ => w0.drew) follows (by kernel_rfl) (by kernel_rfl) rfl ?_
    refine LinP.pure rfl rfl (ex_move (ev rfl)) (pu rfl (by simp only [List.set_cons_succ, List.set_cons_zero]; rfl)) ?_
    refine LinP.pure rfl rfl (ex_nilCheck (ev rfl)) (pu rfl (by simp only [List.set_cons_succ, List.set_cons_zero]; rfl)) ?_
    refine LinP.pure rfl rfl (ex_fieldAddr fa91_0 (ev rfl)) (pu rfl (by simp only [List.set_cons_succ, List.set_cons_zero]; rfl)) ?_
    refine LinP.rd 0 rfl rfl (by kernel_rfl) (by kernel_rfl) (ex_ld_s (ev rfl) sc43 (row_cell (hs.at 0 rfl) 0)) (pu rfl (by simp only [List.set_cons_succ, List.set_cons_zero]; rfl)) ?_
    refine LinP.pure rfl rfl (ex_move (ev rfl)) (pu rfl (by simp only [List.set_cons_succ, List.set_cons_zero]; rfl)) ?_
    refine LinP.pure rfl rfl (ex_nilCheck (ev rfl)) (pu rfl (by simp only [List.set_cons_succ, List.set_cons_zero]; rfl)) ?_
    refine LinP.pure rfl rfl (ex_fieldAddr fa91_1 (ev rfl)) (pu rfl (by simp only [List.set_cons_succ, List.set_cons_zero]; rfl)) ?_
    refine LinP.rd 0 rfl rfl (by kernel_rfl) (by kernel_rfl) (ex_ld_s (ev rfl) sc3 (row_cell (hs.at 0 rfl) 1)) (pu rfl (by simp only [List.set_cons_succ, List.set_cons_zero]; rfl)) ?_
    refine LinP.pure rfl rfl (ex_indexAddr st43 (ev rfl) (ev rfl) hlt) (pu rfl (by simp only [List.set_cons_succ, List.set_cons_zero]; rfl)) ?_
    refine LinP.rd 0 rfl rfl (by kernel_rfl) (by kernel_rfl) (ex_ld_s (ev rfl) sc5 (by rw [Nat.mul_one]; exact hc)) (pu rfl (by simp only [List.set_cons_succ, List.set_cons_zero]; rfl)) ?_
    refine LinP.pure rfl rfl (ex_move (ev rfl)) (pu rfl (by simp only [List.set_cons_succ, List.set_cons_zero]; rfl)) ?_
    refine LinP.pure rfl rfl (ex_mf (ev rfl)) (pu rfl (by simp only [List.set_cons_succ, List.set_cons_zero]; rfl)) ?_
    refine LinP.pure rfl rfl (ex_assign (ev rfl)) (pu rfl (by simp only [List.set_cons_succ, List.set_cons_zero]; rfl)) ?_
    refine LinP.pure rfl rfl (ex_assign (ev rfl)) (pu rfl (by simp only [List.set_cons_succ, List.set_cons_zero]; rfl)) ?_
    refine LinP.done ?_
    go_wp2_with (first
      | ((with_reducible refine gd_ld ?_); first | refine wl_of rfl (hs.ld 0 rfl rfl (sc_of rfl) rfl ?_))
      | (go_at_call 68; refine (digit_any _ _).mono ?_; rintro e w' ⟨rfl, rfl⟩; rw [hdg.out])
      | (go_at_call 72; refine (hlet.out _).mono ?_; rintro e w' ⟨rfl, rfl⟩; rw [hlt8.out])
      | (go_at_call 71; refine (string_c hq.out (by rw [hnx.out, h34.out]; rfl) R hR.out).mono ?_; rintro e w hpost; obtain ⟨rfl, hpost⟩ := hpost.to; replace hpost := hid hpost))
    go_end0
    exact TokPost.base hs hpost.out
  rw [if_neg h34] at hR
  have hdg := hid hdg0
  clear hdg0
  by_cases hlt9 : letterI x.toNat = true
  · rw [if_pos hlt9, ← hdr.out] at hR
    have hlt8 := hid hlt9
    clear hlt9
    replace hR := hid hR
    have k40 : ((x.toNat : Int) == 40) = false := by simpa using h40
    have k41 : ((x.toNat : Int) == 41) = false := by simpa using h41
    have k124 : ((x.toNat : Int) == 124) = false := by simpa using h124
    have k58 : ((x.toNat : Int) == 58) = false := by simpa using h58
    have k34 : ((x.toNat : Int) == 34) = false := by simpa using h34
    clear h58 h34
    clear h40 h41 h124
    go_enter Try.func46, Try.ntmps46
    go_wp2_with fail
    refine wp_region_phases [] (fun _ => w0.drew) follows (by kernel_rfl) (by kernel_rfl) rfl ?_
    refine LinP.pure rfl rfl (ex_move (ev rfl)) (pu rfl (by simp only [List.set_cons_succ, List.set_cons_zero]; rfl)) ?_
    refine LinP.pure rfl rfl (ex_nilCheck (ev rfl)) (pu rfl (by simp only [List.set_cons_succ, List.set_cons_zero]; rfl)) ?_
    refine LinP.pure rfl rfl (ex_fieldAddr fa91_0 (ev rfl)) (pu rfl (by simp only [List.set_cons_succ, List.set_cons_zero]; rfl)) ?_
    refine LinP.rd 0 rfl rfl (by kernel_rfl) (by kernel_rfl) (ex_ld_s (ev rfl) sc43 (row_cell (hs.at 0 rfl) 0)) (pu rfl (by simp only [List.set_cons_succ, List.set_cons_zero]; rfl)) ?_
    refine LinP.pure rfl rfl (ex_move (ev rfl)) (pu rfl (by simp only [List.set_cons_succ, List.set_cons_zero]; rfl)) ?_
    refine LinP.pure rfl rfl (ex_nilCheck (ev rfl)) (pu rfl (by simp only [List.set_cons_succ, List.set_cons_zero]; rfl)) ?_
    refine LinP.pure rfl rfl (ex_fieldAddr fa91_1 (ev rfl)) (pu rfl (by simp only [List.set_cons_succ, List.set_cons_zero]; rfl)) ?_
    refine LinP.rd 0 rfl rfl (by kernel_rfl) (by kernel_rfl) (ex_ld_s (ev rfl) sc3 (row_cell (hs.at 0 rfl) 1)) (pu rfl (by simp only [List.set_cons_succ, List.set_cons_zero]; rfl)) ?_
    refine LinP.pure rfl rfl (ex_indexAddr st43 (ev rfl) (ev rfl) hlt) (pu rfl (by simp only [List.set_cons_succ, List.set_cons_zero]; rfl)) ?_
    refine LinP.rd 0 rfl rfl (by kernel_rfl) (by kernel_rfl) (ex_ld_s (ev rfl) sc5 (by rw [Nat.mul_one]; exact hc)) (pu rfl (by simp only [List.set_cons_succ, List.set_cons_zero]; rfl)) ?_
    refine LinP.pure rfl rfl (ex_move (ev rfl)) (pu rfl (by simp only [List.set_cons_succ, List.set_cons_zero]; rfl)) ?_
    refine LinP.pure rfl rfl (ex_mf (ev rfl)) (pu rfl (by simp only [List.set_cons_succ, List.set_cons_zero]; rfl)) ?_
    refine LinP.pure rfl rfl (ex_assign (ev rfl)) (pu rfl (by simp only [List.set_cons_succ, List.set_cons_zero]; rfl)) ?_
    refine LinP.pure rfl rfl (ex_assign (ev rfl)) (pu rfl (by simp only [List.set_cons_succ, List.set_cons_zero]; rfl)) ?_
    refine LinP.done ?_
    go_wp2_with (first
      | ((with_reducible refine gd_ld ?_); first | refine wl_of rfl (hs.ld 0 rfl rfl (sc_of rfl) rfl ?_))
      | (go_at_call 68; refine (digit_any _ _).mono ?_; rintro e w' ⟨rfl, rfl⟩; rw [hdg.out])
      | (go_at_call 72; refine (hlet.out _).mono ?_; rintro e w' ⟨rfl, rfl⟩; rw [hlt8.out])
      | (go_at_call 65; refine ((sym_c hq.out)).mono ?_; rintro e w hpost; obtain ⟨rfl, hpost⟩ := hpost.to; replace hpost := hid hpost))
    go_end0
    rw [← hR.out]; exact TokPost.base hs hpost.out
  · rw [if_neg hlt9] at hR
    have hlt8 := hid (show letterI x.toNat = false by simpa using hlt9)
    clear hlt9
    replace hR := hid hR
    have k40 : ((x.toNat : Int) == 40) = false := by simpa using h40
    have k41 : ((x.toNat : Int) == 41) = false := by simpa using h41
    have k124 : ((x.toNat : Int) == 124) = false := by simpa using h124
    have k58 : ((x.toNat : Int) == 58) = false := by simpa using h58
    have k34 : ((x.toNat : Int) == 34) = false := by simpa using h34
    clear h58 h34
    clear h40 h41 h124
    go_enter Try.func46, Try.ntmps46
    go_wp2_with fail
    refine wp_region_phases [] (fun _ => w0.drew) follows (by kernel_rfl) (by kernel_rfl) rfl ?_
    refine LinP.pure rfl rfl (ex_move (ev rfl)) (pu rfl (by simp only [List.set_cons_succ, List.set_cons_zero]; rfl)) ?_
    refine LinP.pure rfl rfl (ex_nilCheck (ev rfl)) (pu rfl (by simp only [List.set_cons_succ, List.set_cons_zero]; rfl)) ?_
    refine LinP.pure rfl rfl (ex_fieldAddr fa91_0 (ev rfl)) (pu rfl (by simp only [List.set_cons_succ, List.set_cons_zero]; rfl)) ?_
    refine LinP.rd 0 rfl rfl (by kernel_rfl) (by kernel_rfl) (ex_ld_s (ev rfl) sc43 (row_cell (hs.at 0 rfl) 0)) (pu rfl (by simp only [List.set_cons_succ, List.set_cons_zero]; rfl)) ?_
    refine LinP.pure rfl rfl (ex_move (ev rfl)) (pu rfl (by simp only [List.set_cons_succ, List.set_cons_zero]; rfl)) ?_
    refine LinP.pure rfl rfl (ex_nilCheck (ev rfl)) (pu rfl (by simp only [List.set_cons_succ, List.set_cons_zero]; rfl)) ?_
    refine LinP.pure rfl rfl (ex_fieldAddr fa91_1 (ev rfl)) (pu rfl (by simp only [List.set_cons_succ, List.set_cons_zero]; rfl)) ?_
    refine LinP.rd 0 rfl rfl (by kernel_rfl) (by kernel_rfl) (ex_ld_s (ev rfl) sc3 (row_cell (hs.at 0 rfl) 1)) (pu rfl (by simp only [List.set_cons_succ, List.set_cons_zero]; rfl)) ?_
    refine LinP.pure rfl rfl (ex_indexAddr st43 (ev rfl) (ev rfl) hlt) (pu rfl (by simp only [List.set_cons_succ, List.set_cons_zero]; rfl)) ?_
    refine LinP.rd 0 rfl rfl (by kernel_rfl) (by kernel_rfl) (ex_ld_s (ev rfl) sc5 (by rw [Nat.mul_one]; exact hc)) (pu rfl (by simp only [List.set_cons_succ, List.set_cons_zero]; rfl)) ?_
    refine LinP.pure rfl rfl (ex_move (ev rfl)) (pu rfl (by simp only [List.set_cons_succ, List.set_cons_zero]; rfl)) ?_
    refine LinP.pure rfl rfl (ex_mf (ev rfl)) (pu rfl (by simp only [List.set_cons_succ, List.set_cons_zero]; rfl)) ?_
    refine LinP.pure rfl rfl (ex_assign (ev rfl)) (pu rfl (by simp only [List.set_cons_succ, List.set_cons_zero]; rfl)) ?_
    refine LinP.pure rfl rfl (ex_assign (ev rfl)) (pu rfl (by simp only [List.set_cons_succ, List.set_cons_zero]; rfl)) ?_
    refine LinP.done ?_
    go_wp2_with (first
      | ((with_reducible refine gd_ld ?_); first | refine wl_of rfl (hs.ld 0 rfl rfl (sc_of rfl) rfl ?_))
      | (go_at_call 68; refine (digit_any _ _).mono ?_; rintro e w' ⟨rfl, rfl⟩; rw [hdg.out])
      | (go_at_call 72; refine (hlet.out _).mono ?_; rintro e w' ⟨rfl, rfl⟩; rw [hlt8.out])
      | (go_at_call 73; refine (fail_e (hs.at 0 rfl)).mono ?_; rintro e w ⟨rfl, hs'⟩; replace hs := St.callL hs hs'; clear hs'))
    go_end0
    rw [← hR.out]
    exact TokPost.wrong hs (by simp)
end Go.Proofs.Ytclingkhdmhhoaa

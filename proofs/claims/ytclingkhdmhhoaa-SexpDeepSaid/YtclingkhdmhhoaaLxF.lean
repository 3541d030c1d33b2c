/- The walks of lex's reader: numbers. No condition. -/
import Derived.Test.YtclingkhdmhhoaaLxE
namespace Go.Proofs.Ytclingkhdmhhoaa
open Go.RowKit
set_option linter.unusedSimpArgs false
set_option linter.unusedVariables false

theorem span_take_length (p : Int → Bool) (l : List UInt8) : (l.take (spanN p l)).length = spanN p l := by
  rw [List.length_take]; have := spanN_le p l; omega
/-- the byte at a place of the text -/
theorem byte_at {w0 w : World} {D : List Nat} {H : List (Nat × Obj)} {A : Option Addr} {c e : Nat} {l : List UInt8} {x : UInt8} (hT : Txt w0 D (.slice A l.length c) l) (hs : St w0 D H w) (hx : l[e]? = some x) :
    ∃ b o, A = some ⟨b, o, none⟩ ∧ w.cell? ⟨b, o + e, none⟩ = some (.int .u8 x.toNat) := by
  obtain ⟨A', cc, e1, e2, e3, e4⟩ := hT
  obtain ⟨rfl, -, rfl⟩ : A = A' ∧ l.length = l.length ∧ c = cc := by simpa using e1
  exact e4.at hs hx

set_option maxHeartbeats 1000000 in
set_option maxRecDepth 4000 in
theorem num_zero {w0 : World} {s p c : Nat} {l : List UInt8} {A : Option Addr} {ov : Value} {bad : Int} {out : List Tok} {CO : List (Nat × Obj)} (h : Ready w0 s l A c p ov bad out CO) (h1 : 1 < spanN digitI (l.drop p)) (h2 : nextI l p 48 = true) :
    Calls Try.prog 69 #[.pointer (some ⟨s, 0, none⟩), .int .i64 p] w0 (TokPost w0 s (.slice A l.length c) ov bad out CO p (.error 1)) := by
  obtain ⟨hh, hT, hsl, hlt, hl, hn⟩ := h
  have hs : St w0 (s :: keys CO) ([(s, row 91 [.slice A l.length c, .int .i64 p, ov, .int .i64 bad])] ++ CO) w0 := St.start hh
  replace hT := hid hT
  replace hsl := hid hsl
  clear hh
  obtain ⟨t, ht⟩ := string_of ((l.drop p).take (spanN digitI (l.drop p)))
  have hsz : t.size = spanN digitI (l.drop p) := by rw [Lib.size_eq, ht, span_take_length]
  have h0 : ∀ (hlt0 : 0 < t.size), ((t[0]'hlt0).toNat : Int) = 48 := by
    intro hlt0
    obtain ⟨x, hx⟩ : ∃ x, l[p]? = some x := ⟨_, List.getElem?_eq_getElem hlt⟩
    have e1 : (x.toNat : Int) = 48 := by simpa [nextI, hx] using h2
    have e2 : t.data.toList[0]? = some x := by
      rw [ht, List.getElem?_take, if_pos (by omega), List.getElem?_drop]; exact hx
    have e3 : t.data.toList[0]? = some (t[0]'hlt0) := by
      rw [Array.getElem?_toList]; exact Array.getElem?_eq_getElem hlt0
    rw [e3] at e2; cases e2; exact e1
  have ht' := hid ht.symm
  have g1 : 1 < t.size := by omega
  have g2 := h0 (by omega)
  clear ht h0
  replace hsz := hid hsz
  go_enter Try.func69, Try.ntmps69
  go_wp2_with (first
    | ((with_reducible refine gd_ld ?_); first | refine wl_of rfl (hs.ld 0 rfl rfl (sc_of rfl) rfl ?_))
    | ((with_reducible refine gd_st ?_); refine wl_of rfl (hs.st0 0 rfl rfl (sc_of rfl) rfl (by rfl) (Nat.le_of_ble_eq_true rfl) ?_); intro w hs; replace hs : St w0 _ ([(s, row 91 [.slice A l.length c, .int .i64 ((p + 1 : Nat) : Int), ov, .int .i64 bad])] ++ CO) w := hs)
    | (go_at_call 61; refine (while_t 68 digitI t ht'.out tells68 ent68 (by omega) (hs.at 0 rfl) (txt1 hT.out hs (by simp)) (by omega)).mono ?_; rintro e w ⟨m, hm, rfl, hs'⟩; replace hs := St.callL hs hs'; clear hs'; have hml := hm.le)
    | (go_at_call 73; refine (fail_e (hs.at 0 rfl)).mono ?_; rintro e w ⟨rfl, hs'⟩; replace hs := St.callL hs hs'; clear hs'))
  go_end0
  exact TokPost.wrong hs rfl
/-! written by lexnum.py -/
theorem dec_text {l : List UInt8} {p n b : Nat} {t u : ByteArray} (hd : nextI l (p + n) 46 = true) (ht : (l.drop p).take n = t.data.toList) (hu : (l.drop (p + n + 1)).take b = u.data.toList) :
    (t ++ ⟨#[46]⟩ ++ u).data.toList = (l.drop p).take (n + 1 + b) := by
  have hlt := nextI_lt hd
  obtain ⟨x, hx⟩ : ∃ x, l[p + n]? = some x := ⟨_, List.getElem?_eq_getElem hlt⟩
  have hx2 : x = 46 := by
    have : (x.toNat : Int) = 46 := by simpa [nextI, hx] using hd
    exact UInt8.toNat.inj (by show x.toNat = 46; omega)
  have e1 : (t ++ ⟨#[46]⟩ ++ u).data.toList = t.data.toList ++ [46] ++ u.data.toList := by simp
  rw [e1, ← ht, ← hu, List.take_add, List.take_add, List.drop_drop, List.drop_drop, List.append_assoc, List.append_assoc]
  congr 1
  have e2 : (l.drop (p + n)).take 1 = [46] := by
    rw [List.drop_eq_getElem_cons hlt]
    have := (List.getElem?_eq_some_iff.1 hx).2
    rw [this, hx2]; rfl
  rw [e2]
  congr 3
set_option maxHeartbeats 2000000 in
set_option maxRecDepth 4000 in
theorem num_int {w0 : World} {s p c : Nat} {l : List UInt8} {A : Option Addr} {ov : Value} {bad : Int} {out : List Tok} {CO : List (Nat × Obj)} (h : Ready w0 s l A c p ov bad out CO)
    (hz : ¬ (1 < spanN digitI (l.drop p) ∧ nextI l p 48 = true)) (hdot : nextI l (p + spanN digitI (l.drop p)) 46 = false) :
    Calls Try.prog 69 #[.pointer (some ⟨s, 0, none⟩), .int .i64 p] w0 (TokPost w0 s (.slice A l.length c) ov bad out CO p (finL (l.drop p) 4 (spanN digitI (l.drop p)))) := by
  obtain ⟨hh, hT, hsl, hlt, hl, hn⟩ := h
  have hs : St w0 (s :: keys CO) ([(s, row 91 [.slice A l.length c, .int .i64 p, ov, .int .i64 bad])] ++ CO) w0 := St.start hh
  replace hT := hid hT
  replace hsl := hid hsl
  clear hh
  obtain ⟨t, ht⟩ := string_of ((l.drop p).take (spanN digitI (l.drop p)))
  have hsz : t.size = spanN digitI (l.drop p) := by rw [Lib.size_eq, ht, span_take_length]
  have h0 : 1 < t.size → ∀ (hlt0 : 0 < t.size), (((t[0]'hlt0).toNat : Int) == 48) = false := by
    intro h1 hlt0
    obtain ⟨x, hx⟩ : ∃ x, l[p]? = some x := ⟨_, List.getElem?_eq_getElem hlt⟩
    have e1 : ((x.toNat : Int) == 48) = false := by
      cases hc : ((x.toNat : Int) == 48) with
      | false => rfl
      | true => exact absurd ⟨by omega, by simpa [nextI, hx] using hc⟩ hz
    have e2 : t.data.toList[0]? = some x := by
      rw [ht, List.getElem?_take, if_pos (by omega), List.getElem?_drop]; exact hx
    have e3 : t.data.toList[0]? = some (t[0]'hlt0) := by
      rw [Array.getElem?_toList]; exact Array.getElem?_eq_getElem hlt0
    rw [e3] at e2; cases e2; exact e1
  have ht' := hid ht.symm
  clear ht hz
  have hsz' := hid hsz
  replace hdot := hid hdot
  rcases Nat.lt_or_ge 1 t.size with hbg | hsm
  · have hp0 : 0 < t.size := by clear hsz' hsz; omega
    have g2 := h0 hbg hp0
    clear h0
    replace hsz := hid hsz
    go_enter Try.func69, Try.ntmps69
    go_wp2_with (first
      | ((with_reducible refine gd_ld ?_); first | refine wl_of rfl (hs.ld 0 rfl rfl (sc_of rfl) rfl ?_))
      | (go_at_call 61; (refine (while_t 68 digitI t ht'.out tells68 ent68 (by omega) (hs.at 0 rfl) (txt1 hT.out hs (by simp)) (by omega)).mono ?_; rintro e w ⟨m, hm, rfl, hs'⟩; replace hs := St.callL hs hs'; clear hs'; have hml := hm.le))
      | (go_at_call 63; refine (is_e false (by rw [hm.eq]; exact hdot.out) (hs.at 0 rfl) (txt1 hT.out hs (by simp))).mono ?_; rintro e w ⟨rfl, hq⟩; replace hs := hs.quiet hq; clear hq)
      | (go_at_call 73; refine (fail_e (hs.at 0 rfl)).mono ?_; rintro e w ⟨rfl, hs'⟩; replace hs := St.callL hs hs'; clear hs'))
    have c0 := row_cell (hs.at 0 rfl) 0
    have c1 := row_cell (hs.at 0 rfl) 1
    simp only [List.getElem?_cons_zero, List.getElem?_cons_succ] at c0 c1
    have hsq := hid hs
    have hme := hid (show m = p + (spanN digitI (l.drop p)) by have := hm.eq; omega)
    clear hs
    rcases Nat.lt_or_ge m l.length with hend | hend
    · obtain ⟨x, hx⟩ : ∃ x, l[m]? = some x := ⟨_, List.getElem?_eq_getElem hend⟩
      obtain ⟨b, o, rfl, hc2⟩ := byte_at hT.out hsq.out hx
      have q1 : decide (m < l.length) = true := by simpa using hend
      have hin := inner_any x
      cases hb : innerI x.toNat with
      | true =>
        rw [hb] at hin
        replace hin := hid hin
        replace hb := hid hb
        replace hx := hid hx
        go_quiet ((exact Calls.quiet_of_same ((hin.out _).mono fun _ _ h => ⟨h.1, h.2.symm⟩)))
        rename_i nq
        have hs := hsq.out.drewN nq
        clear c0 c1 hc2 q1
        go_wp2_with (first
          | (go_at_call 73; refine (fail_e (hs.at 0 rfl)).mono ?_; rintro e w ⟨rfl, hs'⟩; replace hs := St.callL hs hs'; clear hs')
          | (go_at_call 85; refine (put_e hsl.out hn hs.has).mono ?_; rintro e w ⟨rfl, ov', CO', hsl', hs'⟩; replace hs := hs.trans hs'; clear hs'))
        go_end0
        have hf : finL (l.drop p) 4 (spanN digitI (l.drop p)) = .error (spanN digitI (l.drop p)) := by
          unfold finL
          rw [if_pos (by rw [holdsI_drop, ← hme.out]; simp only [holdsI, hx.out]; exact hb.out)]
        rw [hf]
        exact TokPost.wrong hs (by rw [hme.out])
      | false =>
        rw [hb] at hin
        replace hin := hid hin
        replace hb := hid hb
        replace hx := hid hx
        go_quiet ((exact Calls.quiet_of_same ((hin.out _).mono fun _ _ h => ⟨h.1, h.2.symm⟩)))
        rename_i nq
        have hs := hsq.out.drewN nq
        clear c0 c1 hc2 q1
        go_wp2_with (first
          | (go_at_call 73; refine (fail_e (hs.at 0 rfl)).mono ?_; rintro e w ⟨rfl, hs'⟩; replace hs := St.callL hs hs'; clear hs')
          | (go_at_call 85; refine (put_e hsl.out hn hs.has).mono ?_; rintro e w ⟨rfl, ov', CO', hsl', hs'⟩; replace hs := hs.trans hs'; clear hs'))
        go_end0
        have hf : finL (l.drop p) 4 (spanN digitI (l.drop p)) = .ok (4, (l.drop p).take (spanN digitI (l.drop p)), (spanN digitI (l.drop p))) := by
          unfold finL
          rw [if_neg (by rw [holdsI_drop, ← hme.out]; simp only [holdsI, hx.out]; rw [hb.out]; simp)]
        rw [hf]
        exact TokPost.good (by rw [ht'.out]; exact hsl'.out) hs (by rw [hme.out])
    · have q1 : decide (m < l.length) = false := by simpa using hend
      go_quiet (fail)
      rename_i nq
      have hs := hsq.out.drewN nq
      clear c0 c1 q1
      go_wp2_with (first
        | (go_at_call 73; refine (fail_e (hs.at 0 rfl)).mono ?_; rintro e w ⟨rfl, hs'⟩; replace hs := St.callL hs hs'; clear hs')
        | (go_at_call 85; refine (put_e hsl.out hn hs.has).mono ?_; rintro e w ⟨rfl, ov', CO', hsl', hs'⟩; replace hs := hs.trans hs'; clear hs'))
      go_end0
      have hf : finL (l.drop p) 4 (spanN digitI (l.drop p)) = .ok (4, (l.drop p).take (spanN digitI (l.drop p)), (spanN digitI (l.drop p))) := by
        unfold finL
        have hno : l[m]? = none := List.getElem?_eq_none hend
        rw [if_neg (by rw [holdsI_drop, ← hme.out]; simp only [holdsI, hno]; simp)]
      rw [hf]
      exact TokPost.good (by rw [ht'.out]; exact hsl'.out) hs (by rw [hme.out])
  · have g1 : decide (1 < t.size) = false := by simp; omega
    have g1' : ¬ 1 < t.size := by omega
    clear h0
    replace hsz := hid hsz
    clear hsm
    go_enter Try.func69, Try.ntmps69
    go_wp2_with (first
      | ((with_reducible refine gd_ld ?_); first | refine wl_of rfl (hs.ld 0 rfl rfl (sc_of rfl) rfl ?_))
      | (go_at_call 61; (refine (while_t 68 digitI t ht'.out tells68 ent68 (by omega) (hs.at 0 rfl) (txt1 hT.out hs (by simp)) (by omega)).mono ?_; rintro e w ⟨m, hm, rfl, hs'⟩; replace hs := St.callL hs hs'; clear hs'; have hml := hm.le))
      | (go_at_call 63; refine (is_e false (by rw [hm.eq]; exact hdot.out) (hs.at 0 rfl) (txt1 hT.out hs (by simp))).mono ?_; rintro e w ⟨rfl, hq⟩; replace hs := hs.quiet hq; clear hq)
      | (go_at_call 73; refine (fail_e (hs.at 0 rfl)).mono ?_; rintro e w ⟨rfl, hs'⟩; replace hs := St.callL hs hs'; clear hs'))
    have c0 := row_cell (hs.at 0 rfl) 0
    have c1 := row_cell (hs.at 0 rfl) 1
    simp only [List.getElem?_cons_zero, List.getElem?_cons_succ] at c0 c1
    have hsq := hid hs
    have hme := hid (show m = p + (spanN digitI (l.drop p)) by have := hm.eq; omega)
    clear hs
    rcases Nat.lt_or_ge m l.length with hend | hend
    · obtain ⟨x, hx⟩ : ∃ x, l[m]? = some x := ⟨_, List.getElem?_eq_getElem hend⟩
      obtain ⟨b, o, rfl, hc2⟩ := byte_at hT.out hsq.out hx
      have q1 : decide (m < l.length) = true := by simpa using hend
      have hin := inner_any x
      cases hb : innerI x.toNat with
      | true =>
        rw [hb] at hin
        replace hin := hid hin
        replace hb := hid hb
        replace hx := hid hx
        go_quiet ((exact Calls.quiet_of_same ((hin.out _).mono fun _ _ h => ⟨h.1, h.2.symm⟩)))
        rename_i nq
        have hs := hsq.out.drewN nq
        clear c0 c1 hc2 q1
        go_wp2_with (first
          | (go_at_call 73; refine (fail_e (hs.at 0 rfl)).mono ?_; rintro e w ⟨rfl, hs'⟩; replace hs := St.callL hs hs'; clear hs')
          | (go_at_call 85; refine (put_e hsl.out hn hs.has).mono ?_; rintro e w ⟨rfl, ov', CO', hsl', hs'⟩; replace hs := hs.trans hs'; clear hs'))
        go_end0
        have hf : finL (l.drop p) 4 (spanN digitI (l.drop p)) = .error (spanN digitI (l.drop p)) := by
          unfold finL
          rw [if_pos (by rw [holdsI_drop, ← hme.out]; simp only [holdsI, hx.out]; exact hb.out)]
        rw [hf]
        exact TokPost.wrong hs (by rw [hme.out])
      | false =>
        rw [hb] at hin
        replace hin := hid hin
        replace hb := hid hb
        replace hx := hid hx
        go_quiet ((exact Calls.quiet_of_same ((hin.out _).mono fun _ _ h => ⟨h.1, h.2.symm⟩)))
        rename_i nq
        have hs := hsq.out.drewN nq
        clear c0 c1 hc2 q1
        go_wp2_with (first
          | (go_at_call 73; refine (fail_e (hs.at 0 rfl)).mono ?_; rintro e w ⟨rfl, hs'⟩; replace hs := St.callL hs hs'; clear hs')
          | (go_at_call 85; refine (put_e hsl.out hn hs.has).mono ?_; rintro e w ⟨rfl, ov', CO', hsl', hs'⟩; replace hs := hs.trans hs'; clear hs'))
        go_end0
        have hf : finL (l.drop p) 4 (spanN digitI (l.drop p)) = .ok (4, (l.drop p).take (spanN digitI (l.drop p)), (spanN digitI (l.drop p))) := by
          unfold finL
          rw [if_neg (by rw [holdsI_drop, ← hme.out]; simp only [holdsI, hx.out]; rw [hb.out]; simp)]
        rw [hf]
        exact TokPost.good (by rw [ht'.out]; exact hsl'.out) hs (by rw [hme.out])
    · have q1 : decide (m < l.length) = false := by simpa using hend
      go_quiet (fail)
      rename_i nq
      have hs := hsq.out.drewN nq
      clear c0 c1 q1
      go_wp2_with (first
        | (go_at_call 73; refine (fail_e (hs.at 0 rfl)).mono ?_; rintro e w ⟨rfl, hs'⟩; replace hs := St.callL hs hs'; clear hs')
        | (go_at_call 85; refine (put_e hsl.out hn hs.has).mono ?_; rintro e w ⟨rfl, ov', CO', hsl', hs'⟩; replace hs := hs.trans hs'; clear hs'))
      go_end0
      have hf : finL (l.drop p) 4 (spanN digitI (l.drop p)) = .ok (4, (l.drop p).take (spanN digitI (l.drop p)), (spanN digitI (l.drop p))) := by
        unfold finL
        have hno : l[m]? = none := List.getElem?_eq_none hend
        rw [if_neg (by rw [holdsI_drop, ← hme.out]; simp only [holdsI, hno]; simp)]
      rw [hf]
      exact TokPost.good (by rw [ht'.out]; exact hsl'.out) hs (by rw [hme.out])
set_option maxHeartbeats 2000000 in
set_option maxRecDepth 4000 in
theorem num_dot {w0 : World} {s p c : Nat} {l : List UInt8} {A : Option Addr} {ov : Value} {bad : Int} {out : List Tok} {CO : List (Nat × Obj)} (h : Ready w0 s l A c p ov bad out CO)
    (hz : ¬ (1 < spanN digitI (l.drop p) ∧ nextI l p 48 = true)) (hdot : nextI l (p + spanN digitI (l.drop p)) 46 = true) (h0p : spanN digitI (l.drop (p + spanN digitI (l.drop p) + 1)) = 0) :
    Calls Try.prog 69 #[.pointer (some ⟨s, 0, none⟩), .int .i64 p] w0 (TokPost w0 s (.slice A l.length c) ov bad out CO p (.error (spanN digitI (l.drop p) + 1))) := by
  obtain ⟨hh, hT, hsl, hlt, hl, hn⟩ := h
  have hs : St w0 (s :: keys CO) ([(s, row 91 [.slice A l.length c, .int .i64 p, ov, .int .i64 bad])] ++ CO) w0 := St.start hh
  replace hT := hid hT
  replace hsl := hid hsl
  clear hh
  obtain ⟨t, ht⟩ := string_of ((l.drop p).take (spanN digitI (l.drop p)))
  have hsz : t.size = spanN digitI (l.drop p) := by rw [Lib.size_eq, ht, span_take_length]
  have h0 : 1 < t.size → ∀ (hlt0 : 0 < t.size), (((t[0]'hlt0).toNat : Int) == 48) = false := by
    intro h1 hlt0
    obtain ⟨x, hx⟩ : ∃ x, l[p]? = some x := ⟨_, List.getElem?_eq_getElem hlt⟩
    have e1 : ((x.toNat : Int) == 48) = false := by
      cases hc : ((x.toNat : Int) == 48) with
      | false => rfl
      | true => exact absurd ⟨by omega, by simpa [nextI, hx] using hc⟩ hz
    have e2 : t.data.toList[0]? = some x := by
      rw [ht, List.getElem?_take, if_pos (by omega), List.getElem?_drop]; exact hx
    have e3 : t.data.toList[0]? = some (t[0]'hlt0) := by
      rw [Array.getElem?_toList]; exact Array.getElem?_eq_getElem hlt0
    rw [e3] at e2; cases e2; exact e1
  have ht' := hid ht.symm
  clear ht hz
  have hsz' := hid hsz
  have hts : t.size ≤ 1048576 := by rw [hsz]; have := spanN_le digitI (l.drop p); rw [List.length_drop] at this; omega
  replace hdot := hid hdot
  obtain ⟨u, rfl, hu⟩ : ∃ u : ByteArray, u = ⟨#[]⟩ ∧ (l.drop (p + spanN digitI (l.drop p) + 1)).take (spanN digitI (l.drop (p + spanN digitI (l.drop p) + 1))) = u.data.toList := ⟨_, rfl, by rw [h0p]; rfl⟩
  replace hu := hid hu
  replace h0p := hid h0p
  rcases Nat.lt_or_ge 1 t.size with hbg | hsm
  · have hp0 : 0 < t.size := by clear hsz' hsz; omega
    have g2 := h0 hbg hp0
    clear h0
    replace hsz := hid hsz
    go_enter Try.func69, Try.ntmps69
    go_wp2_with (first
      | ((with_reducible refine gd_ld ?_); first | refine wl_of rfl (hs.ld 0 rfl rfl (sc_of rfl) rfl ?_))
      | ((with_reducible refine gd_st ?_); refine wl_of rfl (hs.st0 0 rfl rfl (sc_of rfl) rfl (by rfl) (Nat.le_of_ble_eq_true rfl) ?_); intro w hs; replace hs : St w0 _ ([(s, row 91 [.slice A l.length c, .int .i64 ((m + 1 : Nat) : Int), ov, .int .i64 bad])] ++ CO) w := hs)
      | (go_at_call 61; first
        | (refine (while_t 68 digitI t ht'.out tells68 ent68 (by omega) (hs.at 0 rfl) (txt1 hT.out hs (by simp)) (by omega)).mono ?_; rintro e w ⟨m, hm, rfl, hs'⟩; replace hs := St.callL hs hs'; clear hs'; have hml := hm.le)
        | (refine (while_t (at_ := m + 1) 68 digitI ⟨#[]⟩ (by rw [hm.eq]; exact hu.out) tells68 ent68 (by omega) (hs.at 0 rfl) (txt1 hT.out hs (by simp)) (by have := nextI_lt hdot.out; have := hm.eq; omega)).mono ?_; rintro e w ⟨m2, hm2, rfl, hs'⟩; replace hs := St.callL hs hs'; clear hs'; have hml2 := hm2.le))
      | (go_at_call 63; refine (is_e true (by rw [hm.eq]; exact hdot.out) (hs.at 0 rfl) (txt1 hT.out hs (by simp))).mono ?_; rintro e w ⟨rfl, hq⟩; replace hs := hs.quiet hq; clear hq)
      | (go_at_call 73; refine (fail_e (hs.at 0 rfl)).mono ?_; rintro e w ⟨rfl, hs'⟩; replace hs := St.callL hs hs'; clear hs'))
    go_end0
    exact TokPost.wrong hs (by have e1 := hm.eq; have e2 := hm2.eq; have e3 := h0p.out; rw [← e1] at e3; omega)
  · have g1 : decide (1 < t.size) = false := by simp; omega
    have g1' : ¬ 1 < t.size := by omega
    clear h0
    replace hsz := hid hsz
    clear hsm
    go_enter Try.func69, Try.ntmps69
    go_wp2_with (first
      | ((with_reducible refine gd_ld ?_); first | refine wl_of rfl (hs.ld 0 rfl rfl (sc_of rfl) rfl ?_))
      | ((with_reducible refine gd_st ?_); refine wl_of rfl (hs.st0 0 rfl rfl (sc_of rfl) rfl (by rfl) (Nat.le_of_ble_eq_true rfl) ?_); intro w hs; replace hs : St w0 _ ([(s, row 91 [.slice A l.length c, .int .i64 ((m + 1 : Nat) : Int), ov, .int .i64 bad])] ++ CO) w := hs)
      | (go_at_call 61; first
        | (refine (while_t 68 digitI t ht'.out tells68 ent68 (by omega) (hs.at 0 rfl) (txt1 hT.out hs (by simp)) (by omega)).mono ?_; rintro e w ⟨m, hm, rfl, hs'⟩; replace hs := St.callL hs hs'; clear hs'; have hml := hm.le)
        | (refine (while_t (at_ := m + 1) 68 digitI ⟨#[]⟩ (by rw [hm.eq]; exact hu.out) tells68 ent68 (by omega) (hs.at 0 rfl) (txt1 hT.out hs (by simp)) (by have := nextI_lt hdot.out; have := hm.eq; omega)).mono ?_; rintro e w ⟨m2, hm2, rfl, hs'⟩; replace hs := St.callL hs hs'; clear hs'; have hml2 := hm2.le))
      | (go_at_call 63; refine (is_e true (by rw [hm.eq]; exact hdot.out) (hs.at 0 rfl) (txt1 hT.out hs (by simp))).mono ?_; rintro e w ⟨rfl, hq⟩; replace hs := hs.quiet hq; clear hq)
      | (go_at_call 73; refine (fail_e (hs.at 0 rfl)).mono ?_; rintro e w ⟨rfl, hs'⟩; replace hs := St.callL hs hs'; clear hs'))
    go_end0
    exact TokPost.wrong hs (by have e1 := hm.eq; have e2 := hm2.eq; have e3 := h0p.out; rw [← e1] at e3; omega)
set_option maxHeartbeats 2000000 in
set_option maxRecDepth 4000 in
theorem num_dec {w0 : World} {s p c : Nat} {l : List UInt8} {A : Option Addr} {ov : Value} {bad : Int} {out : List Tok} {CO : List (Nat × Obj)} (h : Ready w0 s l A c p ov bad out CO)
    (hz : ¬ (1 < spanN digitI (l.drop p) ∧ nextI l p 48 = true)) (hdot : nextI l (p + spanN digitI (l.drop p)) 46 = true) (h0p : spanN digitI (l.drop (p + spanN digitI (l.drop p) + 1)) ≠ 0) :
    Calls Try.prog 69 #[.pointer (some ⟨s, 0, none⟩), .int .i64 p] w0 (TokPost w0 s (.slice A l.length c) ov bad out CO p (finL (l.drop p) 5 (spanN digitI (l.drop p) + 1 + spanN digitI (l.drop (p + spanN digitI (l.drop p) + 1))))) := by
  obtain ⟨hh, hT, hsl, hlt, hl, hn⟩ := h
  have hs : St w0 (s :: keys CO) ([(s, row 91 [.slice A l.length c, .int .i64 p, ov, .int .i64 bad])] ++ CO) w0 := St.start hh
  replace hT := hid hT
  replace hsl := hid hsl
  clear hh
  obtain ⟨t, ht⟩ := string_of ((l.drop p).take (spanN digitI (l.drop p)))
  have hsz : t.size = spanN digitI (l.drop p) := by rw [Lib.size_eq, ht, span_take_length]
  have h0 : 1 < t.size → ∀ (hlt0 : 0 < t.size), (((t[0]'hlt0).toNat : Int) == 48) = false := by
    intro h1 hlt0
    obtain ⟨x, hx⟩ : ∃ x, l[p]? = some x := ⟨_, List.getElem?_eq_getElem hlt⟩
    have e1 : ((x.toNat : Int) == 48) = false := by
      cases hc : ((x.toNat : Int) == 48) with
      | false => rfl
      | true => exact absurd ⟨by omega, by simpa [nextI, hx] using hc⟩ hz
    have e2 : t.data.toList[0]? = some x := by
      rw [ht, List.getElem?_take, if_pos (by omega), List.getElem?_drop]; exact hx
    have e3 : t.data.toList[0]? = some (t[0]'hlt0) := by
      rw [Array.getElem?_toList]; exact Array.getElem?_eq_getElem hlt0
    rw [e3] at e2; cases e2; exact e1
  have ht' := hid ht.symm
  clear ht hz
  have hsz' := hid hsz
  have hts : t.size ≤ 1048576 := by rw [hsz]; have := spanN_le digitI (l.drop p); rw [List.length_drop] at this; omega
  replace hdot := hid hdot
  obtain ⟨u, hu⟩ := string_of ((l.drop (p + spanN digitI (l.drop p) + 1)).take (spanN digitI (l.drop (p + spanN digitI (l.drop p) + 1))))
  have hul : u.data.toList.length = spanN digitI (l.drop (p + spanN digitI (l.drop p) + 1)) := by rw [hu, span_take_length]
  have hus : u.size ≤ 1048576 := by rw [Lib.size_eq, hul]; have := spanN_le digitI (l.drop (p + spanN digitI (l.drop p) + 1)); rw [List.length_drop] at this; omega
  have g3 : u.toList.isEmpty = false := by
    rw [ByteArray.toList_eq]
    cases hd : u.data.toList with
    | nil => rw [hd] at hul; exact absurd hul.symm h0p
    | cons a b => rfl
  replace hu := hid hu.symm
  replace hul := hid hul
  replace h0p := hid h0p
  rcases Nat.lt_or_ge 1 t.size with hbg | hsm
  · have hp0 : 0 < t.size := by clear hsz' hsz; omega
    have g2 := h0 hbg hp0
    clear h0
    replace hsz := hid hsz
    go_enter Try.func69, Try.ntmps69
    go_wp2_with (first
      | ((with_reducible refine gd_ld ?_); first | refine wl_of rfl (hs.ld 0 rfl rfl (sc_of rfl) rfl ?_))
      | ((with_reducible refine gd_st ?_); refine wl_of rfl (hs.st0 0 rfl rfl (sc_of rfl) rfl (by rfl) (Nat.le_of_ble_eq_true rfl) ?_); intro w hs; replace hs : St w0 _ ([(s, row 91 [.slice A l.length c, .int .i64 ((m + 1 : Nat) : Int), ov, .int .i64 bad])] ++ CO) w := hs)
      | (go_at_call 61; first
        | (refine (while_t 68 digitI t ht'.out tells68 ent68 (by omega) (hs.at 0 rfl) (txt1 hT.out hs (by simp)) (by omega)).mono ?_; rintro e w ⟨m, hm, rfl, hs'⟩; replace hs := St.callL hs hs'; clear hs'; have hml := hm.le)
        | (refine (while_t (at_ := m + 1) 68 digitI u (by rw [hm.eq]; exact hu.out) tells68 ent68 (by omega) (hs.at 0 rfl) (txt1 hT.out hs (by simp)) (by have := nextI_lt hdot.out; have := hm.eq; omega)).mono ?_; rintro e w ⟨m2, hm2, rfl, hs'⟩; replace hs := St.callL hs hs'; clear hs'; have hml2 := hm2.le))
      | (go_at_call 63; refine (is_e true (by rw [hm.eq]; exact hdot.out) (hs.at 0 rfl) (txt1 hT.out hs (by simp))).mono ?_; rintro e w ⟨rfl, hq⟩; replace hs := hs.quiet hq; clear hq)
      | (go_at_call 73; refine (fail_e (hs.at 0 rfl)).mono ?_; rintro e w ⟨rfl, hs'⟩; replace hs := St.callL hs hs'; clear hs'))
    have c0 := row_cell (hs.at 0 rfl) 0
    have c1 := row_cell (hs.at 0 rfl) 1
    simp only [List.getElem?_cons_zero, List.getElem?_cons_succ] at c0 c1
    have hsq := hid hs
    have hme := hid (show m2 = p + (spanN digitI (l.drop p) + 1 + spanN digitI (l.drop (p + spanN digitI (l.drop p) + 1))) by have e1 := hm.eq; have e2 := hm2.eq; rw [← e1]; omega)
    clear hs
    rcases Nat.lt_or_ge m2 l.length with hend | hend
    · obtain ⟨x, hx⟩ : ∃ x, l[m2]? = some x := ⟨_, List.getElem?_eq_getElem hend⟩
      obtain ⟨b, o, rfl, hc2⟩ := byte_at hT.out hsq.out hx
      have q1 : decide (m2 < l.length) = true := by simpa using hend
      have hin := inner_any x
      cases hb : innerI x.toNat with
      | true =>
        rw [hb] at hin
        replace hin := hid hin
        replace hb := hid hb
        replace hx := hid hx
        go_quiet ((exact Calls.quiet_of_same ((hin.out _).mono fun _ _ h => ⟨h.1, h.2.symm⟩)))
        rename_i nq
        have hs := hsq.out.drewN nq
        clear c0 c1 hc2 q1
        go_wp2_with (first
          | (go_at_call 73; refine (fail_e (hs.at 0 rfl)).mono ?_; rintro e w ⟨rfl, hs'⟩; replace hs := St.callL hs hs'; clear hs')
          | (go_at_call 85; refine (put_e hsl.out hn hs.has).mono ?_; rintro e w ⟨rfl, ov', CO', hsl', hs'⟩; replace hs := hs.trans hs'; clear hs'))
        go_end0
        have hf : finL (l.drop p) 5 (spanN digitI (l.drop p) + 1 + spanN digitI (l.drop (p + spanN digitI (l.drop p) + 1))) = .error (spanN digitI (l.drop p) + 1 + spanN digitI (l.drop (p + spanN digitI (l.drop p) + 1))) := by
          unfold finL
          rw [if_pos (by rw [holdsI_drop, ← hme.out]; simp only [holdsI, hx.out]; exact hb.out)]
        rw [hf]
        exact TokPost.wrong hs (by rw [hme.out])
      | false =>
        rw [hb] at hin
        replace hin := hid hin
        replace hb := hid hb
        replace hx := hid hx
        go_quiet ((exact Calls.quiet_of_same ((hin.out _).mono fun _ _ h => ⟨h.1, h.2.symm⟩)))
        rename_i nq
        have hs := hsq.out.drewN nq
        clear c0 c1 hc2 q1
        go_wp2_with (first
          | (go_at_call 73; refine (fail_e (hs.at 0 rfl)).mono ?_; rintro e w ⟨rfl, hs'⟩; replace hs := St.callL hs hs'; clear hs')
          | (go_at_call 85; refine (put_e hsl.out hn hs.has).mono ?_; rintro e w ⟨rfl, ov', CO', hsl', hs'⟩; replace hs := hs.trans hs'; clear hs'))
        go_end0
        have hf : finL (l.drop p) 5 (spanN digitI (l.drop p) + 1 + spanN digitI (l.drop (p + spanN digitI (l.drop p) + 1))) = .ok (5, (l.drop p).take (spanN digitI (l.drop p) + 1 + spanN digitI (l.drop (p + spanN digitI (l.drop p) + 1))), (spanN digitI (l.drop p) + 1 + spanN digitI (l.drop (p + spanN digitI (l.drop p) + 1)))) := by
          unfold finL
          rw [if_neg (by rw [holdsI_drop, ← hme.out]; simp only [holdsI, hx.out]; rw [hb.out]; simp)]
        rw [hf]
        exact TokPost.good (by rw [← dec_text hdot.out ht'.out hu.out]; exact hsl'.out) hs (by rw [hme.out])
    · have q1 : decide (m2 < l.length) = false := by simpa using hend
      go_quiet (fail)
      rename_i nq
      have hs := hsq.out.drewN nq
      clear c0 c1 q1
      go_wp2_with (first
        | (go_at_call 73; refine (fail_e (hs.at 0 rfl)).mono ?_; rintro e w ⟨rfl, hs'⟩; replace hs := St.callL hs hs'; clear hs')
        | (go_at_call 85; refine (put_e hsl.out hn hs.has).mono ?_; rintro e w ⟨rfl, ov', CO', hsl', hs'⟩; replace hs := hs.trans hs'; clear hs'))
      go_end0
      have hf : finL (l.drop p) 5 (spanN digitI (l.drop p) + 1 + spanN digitI (l.drop (p + spanN digitI (l.drop p) + 1))) = .ok (5, (l.drop p).take (spanN digitI (l.drop p) + 1 + spanN digitI (l.drop (p + spanN digitI (l.drop p) + 1))), (spanN digitI (l.drop p) + 1 + spanN digitI (l.drop (p + spanN digitI (l.drop p) + 1)))) := by
        unfold finL
        have hno : l[m2]? = none := List.getElem?_eq_none hend
        rw [if_neg (by rw [holdsI_drop, ← hme.out]; simp only [holdsI, hno]; simp)]
      rw [hf]
      exact TokPost.good (by rw [← dec_text hdot.out ht'.out hu.out]; exact hsl'.out) hs (by rw [hme.out])
  · have g1 : decide (1 < t.size) = false := by simp; omega
    have g1' : ¬ 1 < t.size := by omega
    clear h0
    replace hsz := hid hsz
    clear hsm
    go_enter Try.func69, Try.ntmps69
    go_wp2_with (first
      | ((with_reducible refine gd_ld ?_); first | refine wl_of rfl (hs.ld 0 rfl rfl (sc_of rfl) rfl ?_))
      | ((with_reducible refine gd_st ?_); refine wl_of rfl (hs.st0 0 rfl rfl (sc_of rfl) rfl (by rfl) (Nat.le_of_ble_eq_true rfl) ?_); intro w hs; replace hs : St w0 _ ([(s, row 91 [.slice A l.length c, .int .i64 ((m + 1 : Nat) : Int), ov, .int .i64 bad])] ++ CO) w := hs)
      | (go_at_call 61; first
        | (refine (while_t 68 digitI t ht'.out tells68 ent68 (by omega) (hs.at 0 rfl) (txt1 hT.out hs (by simp)) (by omega)).mono ?_; rintro e w ⟨m, hm, rfl, hs'⟩; replace hs := St.callL hs hs'; clear hs'; have hml := hm.le)
        | (refine (while_t (at_ := m + 1) 68 digitI u (by rw [hm.eq]; exact hu.out) tells68 ent68 (by omega) (hs.at 0 rfl) (txt1 hT.out hs (by simp)) (by have := nextI_lt hdot.out; have := hm.eq; omega)).mono ?_; rintro e w ⟨m2, hm2, rfl, hs'⟩; replace hs := St.callL hs hs'; clear hs'; have hml2 := hm2.le))
      | (go_at_call 63; refine (is_e true (by rw [hm.eq]; exact hdot.out) (hs.at 0 rfl) (txt1 hT.out hs (by simp))).mono ?_; rintro e w ⟨rfl, hq⟩; replace hs := hs.quiet hq; clear hq)
      | (go_at_call 73; refine (fail_e (hs.at 0 rfl)).mono ?_; rintro e w ⟨rfl, hs'⟩; replace hs := St.callL hs hs'; clear hs'))
    have c0 := row_cell (hs.at 0 rfl) 0
    have c1 := row_cell (hs.at 0 rfl) 1
    simp only [List.getElem?_cons_zero, List.getElem?_cons_succ] at c0 c1
    have hsq := hid hs
    have hme := hid (show m2 = p + (spanN digitI (l.drop p) + 1 + spanN digitI (l.drop (p + spanN digitI (l.drop p) + 1))) by have e1 := hm.eq; have e2 := hm2.eq; rw [← e1]; omega)
    clear hs
    rcases Nat.lt_or_ge m2 l.length with hend | hend
    · obtain ⟨x, hx⟩ : ∃ x, l[m2]? = some x := ⟨_, List.getElem?_eq_getElem hend⟩
      obtain ⟨b, o, rfl, hc2⟩ := byte_at hT.out hsq.out hx
      have q1 : decide (m2 < l.length) = true := by simpa using hend
      have hin := inner_any x
      cases hb : innerI x.toNat with
      | true =>
        rw [hb] at hin
        replace hin := hid hin
        replace hb := hid hb
        replace hx := hid hx
        go_quiet ((exact Calls.quiet_of_same ((hin.out _).mono fun _ _ h => ⟨h.1, h.2.symm⟩)))
        rename_i nq
        have hs := hsq.out.drewN nq
        clear c0 c1 hc2 q1
        go_wp2_with (first
          | (go_at_call 73; refine (fail_e (hs.at 0 rfl)).mono ?_; rintro e w ⟨rfl, hs'⟩; replace hs := St.callL hs hs'; clear hs')
          | (go_at_call 85; refine (put_e hsl.out hn hs.has).mono ?_; rintro e w ⟨rfl, ov', CO', hsl', hs'⟩; replace hs := hs.trans hs'; clear hs'))
        go_end0
        have hf : finL (l.drop p) 5 (spanN digitI (l.drop p) + 1 + spanN digitI (l.drop (p + spanN digitI (l.drop p) + 1))) = .error (spanN digitI (l.drop p) + 1 + spanN digitI (l.drop (p + spanN digitI (l.drop p) + 1))) := by
          unfold finL
          rw [if_pos (by rw [holdsI_drop, ← hme.out]; simp only [holdsI, hx.out]; exact hb.out)]
        rw [hf]
        exact TokPost.wrong hs (by rw [hme.out])
      | false =>
        rw [hb] at hin
        replace hin := hid hin
        replace hb := hid hb
        replace hx := hid hx
        go_quiet ((exact Calls.quiet_of_same ((hin.out _).mono fun _ _ h => ⟨h.1, h.2.symm⟩)))
        rename_i nq
        have hs := hsq.out.drewN nq
        clear c0 c1 hc2 q1
        go_wp2_with (first
          | (go_at_call 73; refine (fail_e (hs.at 0 rfl)).mono ?_; rintro e w ⟨rfl, hs'⟩; replace hs := St.callL hs hs'; clear hs')
          | (go_at_call 85; refine (put_e hsl.out hn hs.has).mono ?_; rintro e w ⟨rfl, ov', CO', hsl', hs'⟩; replace hs := hs.trans hs'; clear hs'))
        go_end0
        have hf : finL (l.drop p) 5 (spanN digitI (l.drop p) + 1 + spanN digitI (l.drop (p + spanN digitI (l.drop p) + 1))) = .ok (5, (l.drop p).take (spanN digitI (l.drop p) + 1 + spanN digitI (l.drop (p + spanN digitI (l.drop p) + 1))), (spanN digitI (l.drop p) + 1 + spanN digitI (l.drop (p + spanN digitI (l.drop p) + 1)))) := by
          unfold finL
          rw [if_neg (by rw [holdsI_drop, ← hme.out]; simp only [holdsI, hx.out]; rw [hb.out]; simp)]
        rw [hf]
        exact TokPost.good (by rw [← dec_text hdot.out ht'.out hu.out]; exact hsl'.out) hs (by rw [hme.out])
    · have q1 : decide (m2 < l.length) = false := by simpa using hend
      go_quiet (fail)
      rename_i nq
      have hs := hsq.out.drewN nq
      clear c0 c1 q1
      go_wp2_with (first
        | (go_at_call 73; refine (fail_e (hs.at 0 rfl)).mono ?_; rintro e w ⟨rfl, hs'⟩; replace hs := St.callL hs hs'; clear hs')
        | (go_at_call 85; refine (put_e hsl.out hn hs.has).mono ?_; rintro e w ⟨rfl, ov', CO', hsl', hs'⟩; replace hs := hs.trans hs'; clear hs'))
      go_end0
      have hf : finL (l.drop p) 5 (spanN digitI (l.drop p) + 1 + spanN digitI (l.drop (p + spanN digitI (l.drop p) + 1))) = .ok (5, (l.drop p).take (spanN digitI (l.drop p) + 1 + spanN digitI (l.drop (p + spanN digitI (l.drop p) + 1))), (spanN digitI (l.drop p) + 1 + spanN digitI (l.drop (p + spanN digitI (l.drop p) + 1)))) := by
        unfold finL
        have hno : l[m2]? = none := List.getElem?_eq_none hend
        rw [if_neg (by rw [holdsI_drop, ← hme.out]; simp only [holdsI, hno]; simp)]
      rw [hf]
      exact TokPost.good (by rw [← dec_text hdot.out ht'.out hu.out]; exact hsl'.out) hs (by rw [hme.out])
end Go.Proofs.Ytclingkhdmhhoaa

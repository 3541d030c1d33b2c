/- The walks of lex's reader: strings. No condition. -/
import Derived.Test.YtclingkhdmhhoaaLxF
namespace Go.Proofs.Ytclingkhdmhhoaa
open Go.RowKit
set_option linter.unusedSimpArgs false
set_option linter.unusedVariables false

def bts (ps : List ByteArray) : List (List UInt8) := ps.map (·.data.toList)
/-- parts, a quotation mark behind each -/
def preS (ps : List ByteArray) : List UInt8 := ((bts ps).map (· ++ [34])).flatten
theorem preS_snoc (ps : List ByteArray) (q : ByteArray) : preS (ps ++ [q]) = preS ps ++ (q.data.toList ++ [34]) := by simp [preS, bts]
theorem join_parts (q : ByteArray) : ∀ (ps : List ByteArray), Lib.join (bts (ps ++ [q])) [34] = preS ps ++ q.data.toList
  | [] => Lib.join_one _ _
  | p :: ps => by
    have h := join_parts q ps
    obtain ⟨x, xs, hx⟩ : ∃ x xs, bts (ps ++ [q]) = x :: xs := by
      cases hb : bts (ps ++ [q]) with
      | nil => simp [bts] at hb
      | cons x xs => exact ⟨x, xs, rfl⟩
    show Lib.join (p.data.toList :: bts (ps ++ [q])) [34] = _
    rw [hx, Lib.join_cons] at h ⊢
    have e : Lib.joinTail [34] (x :: xs) = [34] ++ (x ++ Lib.joinTail [34] xs) := by simp [Lib.joinTail]
    rw [e, h]
    simp [preS, bts]

/-- the string at p, read up to a -/
def StrAt (l : List UInt8) (p : Nat) (ps : List ByteArray) (a : Nat) (more : Bool) : Prop :=
  (more = true ∧ p ≤ a ∧ nextI l a 34 = true ∧ strL (l.drop (p + 1)) = addT (preS ps) (a - p) (strL (l.drop (a + 1)))) ∨
  (more = false ∧ ∃ qs q, ps = qs ++ [q] ∧ p < a ∧ a ≤ l.length ∧ strL (l.drop (p + 1)) = .ok (preS qs ++ q.data.toList, a - p - 1))
theorem StrAt.start {l : List UInt8} {p : Nat} (h : nextI l p 34 = true) : StrAt l p [] p true := .inl ⟨rfl, Nat.le_refl _, h, by
  rw [Nat.sub_self]
  cases strL (l.drop (p + 1)) with
  | ok x => simp [addT, preS, bts]
  | error e => simp [addT]⟩
theorem StrAt.step {l : List UInt8} {p a m : Nat} {ps : List ByteArray} {q : ByteArray} (h : StrAt l p ps a true) (hm : Upto quoI l (a + 1) m) (hq : (l.drop (a + 1)).take (spanN quoI (l.drop (a + 1))) = q.data.toList) (h34 : nextI l m 34 = true) :
    StrAt l p (ps ++ [q]) (m + 1) (nextI l (m + 1) 34) := by
  rcases h with ⟨-, hpa, hl, hR⟩ | ⟨h, _⟩
  · have hlt := nextI_lt h34
    have e := hm.eq
    have hpart := strL_part (l.drop (a + 1))
    rw [hq, List.drop_drop, ← e] at hpart
    have hsp : spanN quoI (l.drop (a + 1)) = m - (a + 1) := by omega
    rw [hsp] at hpart
    cases hb : nextI l (m + 1) 34 with
    | true =>
      refine .inl ⟨rfl, by omega, hb, ?_⟩
      have h2 := strL_two (l := l.drop m) (by rw [nextI_drop]; exact h34) (by rw [nextI_drop]; exact hb)
      rw [List.drop_drop] at h2
      rw [hR, hpart, h2, addT_addT, addT_addT, preS_snoc]
      congr 1
      · simp
      · omega
    | false =>
      refine .inr ⟨rfl, ps, q, rfl, by omega, by omega, ?_⟩
      have h1 := strL_one (l := l.drop m) (by rw [nextI_drop]; exact h34) (by rw [nextI_drop]; exact hb)
      rw [hR, hpart, h1, addT_addT]
      simp only [addT, List.append_nil]
      congr 2
      omega
  · cases h
theorem StrAt.bad {l : List UInt8} {p a m : Nat} {ps : List ByteArray} (h : StrAt l p ps a true) (hm : Upto quoI l (a + 1) m) (h34 : nextI l m 34 = false) : strL (l.drop (p + 1)) = .error (m - p - 1) ∧ p < m := by
  rcases h with ⟨-, hpa, hl, hR⟩ | ⟨h, _⟩
  · have e := hm.eq
    have hpart := strL_part (l.drop (a + 1))
    rw [List.drop_drop, ← e] at hpart
    have hsp : spanN quoI (l.drop (a + 1)) = m - (a + 1) := by omega
    rw [hsp] at hpart
    have hend := strL_end (l := l.drop m) (by
      have h1 := hm.fin
      cases hd : l.drop m with
      | nil => rfl
      | cons x xs =>
        have hx : l[m]? = some x := by
          have := List.getElem?_drop (xs := l) (i := m) (j := 0)
          rw [hd] at this; simpa using this.symm
        rw [holdsI, hx] at h1
        simp only at h1
        simp [spanN, h1]) (by rw [nextI_drop]; exact h34)
    rw [hR, hpart, hend]
    refine ⟨?_, by omega⟩
    simp only [addT]
    congr 1
    omega
  · cases h
theorem StrAt.fin {l : List UInt8} {p a : Nat} {ps : List ByteArray} (h : StrAt l p ps a false) : ∃ qs q, ps = qs ++ [q] ∧ p < a ∧ a ≤ l.length ∧ strL (l.drop (p + 1)) = .ok (preS qs ++ q.data.toList, a - p - 1) := by
  rcases h with ⟨h, _⟩ | ⟨-, h⟩
  · cases h
  · exact h
theorem StrAt.lt {l : List UInt8} {p a : Nat} {ps : List ByteArray} (h : StrAt l p ps a true) : p ≤ a ∧ a < l.length := by
  rcases h with ⟨-, hpa, hl, hR⟩ | ⟨h, _⟩
  · exact ⟨hpa, nextI_lt hl⟩
  · cases h

theorem strL_text : ∀ (n : Nat) (l : List UInt8), l.length ≤ n → ∀ t k, strL l = .ok (t, k) → t.length ≤ k := by
  intro n
  induction n with
  | zero =>
    intro l h t k hs
    have : l = [] := List.eq_nil_of_length_eq_zero (by omega)
    subst this; cases hs
  | succ n ih =>
    intro l h t k hs
    match l, h with
    | [], h => cases hs
    | [c], h =>
      simp only [strL] at hs
      split at hs
      · split at hs
        · cases hs; simp
        · cases hs
      · cases hs
    | c :: d :: ds, h =>
      rw [strL] at hs
      split at hs
      · split at hs
        · split at hs
          · cases hx : strL ds with
            | error e => rw [hx] at hs; cases hs
            | ok x =>
              obtain ⟨t', k'⟩ := x
              have := ih ds (by simp at h; omega) t' k' hx
              rw [hx] at hs; cases hs; simp; omega
          · cases hs; simp
        · cases hx : strL (d :: ds) with
          | error e => rw [hx] at hs; cases hs
          | ok x =>
            obtain ⟨t', k'⟩ := x
            have := ih (d :: ds) (by simpa using h) t' k' hx
            rw [hx] at hs; cases hs; simp; omega
      · cases hs
theorem join_e {w : World} {g c : Nat} {qs : List ByteArray} {q : ByteArray} {junk : List Value} (hg : w.heap[g]? = some (row 9 ((qs ++ [q]).map Value.string ++ junk))) (hN : (qs ++ [q]).length ≤ 1073741824) (hcap : (qs ++ [q]).length ≤ c)
    (hlen : (preS qs ++ q.data.toList).length ≤ 1073741824) :
    Calls Try.prog 90 #[.slice (some ⟨g, 0, none⟩) (qs ++ [q]).length c, .string ⟨#[34]⟩] w fun e w' => e = .returned (.string ⟨(preS qs ++ q.data.toList).toArray⟩) ∧ Below w.heap.size w w' := by
  have h := Try.strings_Join g 0 c (qs ++ [q]) ⟨#[34]⟩ w (fun j x hx => by
    rw [row_cell hg, Nat.zero_add]
    have hj : j < ((qs ++ [q]).map Value.string).length := by
      have := (List.getElem?_eq_some_iff.1 hx).1
      simpa using this
    rw [List.getElem?_append_left hj, List.getElem?_map, hx]; rfl) (Array.getElem?_eq_some_iff.1 hg).1 (by omega) hcap (by
      show (Lib.join (bts (qs ++ [q])) [34]).length ≤ _
      rw [join_parts]; omega)
  have e : Lib.join ((qs ++ [q]).map (·.data.toList)) (⟨#[34]⟩ : ByteArray).data.toList = preS qs ++ q.data.toList := join_parts q qs
  rw [e] at h
  exact h
theorem next0 {l : List UInt8} {p : Nat} : nextI (l.drop p) 0 34 = nextI l p 34 := by rw [nextI_drop]; rfl

set_option maxHeartbeats 2000000 in
set_option maxRecDepth 4000 in
theorem string_c {w0 : World} {s p c : Nat} {l : List UInt8} {A : Option Addr} {ov : Value} {bad : Int} {out : List Tok} {CO : List (Nat × Obj)} (h : Ready w0 s l A c p ov bad out CO) (hp34 : nextI l p 34 = true) (r : Except Nat (Int × List UInt8 × Nat))
    (hr : (match strL (l.drop (p + 1)) with | .ok (t, n) => Except.ok (7, t, n + 1) | .error e => Except.error (e + 1)) = r) :
    Calls Try.prog 71 #[.pointer (some ⟨s, 0, none⟩), .int .i64 p] w0 (TokPost w0 s (.slice A l.length c) ov bad out CO p r) := by
  obtain ⟨hh, hT, hsl, hlt, hl, hn⟩ := h
  have hs : St w0 (s :: keys CO) ((s, row 91 [.slice A l.length c, .int .i64 p, ov, .int .i64 bad]) :: CO ++ []) w0 := by rw [List.append_nil]; exact St.start hh
  replace hT := hid hT
  replace hsl := hid hsl
  replace hr := hid hr
  have hst := hid (StrAt.start hp34)
  clear hh hp34
  go_enter Try.func71, Try.ntmps71
  go_wp2_with fail
  go_loopg [4, 5] (l.length + 1 - p) (fun g pv mv wr => ∃ (ps : List ByteArray) (CP : List (Nat × Obj)) (a : Nat) (more : Bool), mv = .bool more ∧ g = l.length + 1 - a ∧ a ≤ l.length ∧ ps.length ≤ a ∧ Hid (StrAt l p ps a more) ∧ Hid (Sl 9 1 pv ps.length (ps.map Value.string) CP) ∧
    St w0 (s :: keys CO) ((s, row 91 [.slice A l.length c, .int .i64 a, ov, .int .i64 bad]) :: CO ++ CP) wr)
  case atStart => exact ⟨[], [], p, true, rfl, rfl, by omega, Nat.zero_le _, hst, hid (Sl.nil 9 1), hs⟩
  case round =>
    clear hs hst
    obtain ⟨ps, CP, a, more, rfl, rfl, ha, hpsa, hst, hsp, hs⟩ := hrel
    cases more with
    | true =>
      obtain ⟨hpa, hal⟩ := hst.out.lt
      obtain ⟨t, ht⟩ := string_of ((l.drop (a + 1)).take (spanN quoI (l.drop (a + 1))))
      replace ht := hid ht.symm
      obtain ⟨b34, h34⟩ : ∃ b, nextI l (a + 1 + spanN quoI (l.drop (a + 1))) 34 = b := ⟨_, rfl⟩
      cases b34 with
      | true =>
        replace h34 := hid h34
        go_wp2_with (first
          | ((with_reducible refine gd_ld ?_); first | refine wl_of rfl (hs.ld 0 rfl rfl (sc_of rfl) rfl ?_))
          | ((with_reducible refine gd_st ?_); refine wl_of rfl (hs.st0 0 rfl rfl (sc_of rfl) rfl (by rfl) (Nat.le_of_ble_eq_true rfl) ?_); intro w hs; first
            | (replace hs : St w0 _ ((s, row 91 [.slice A l.length c, .int .i64 ((m + 1 : Nat) : Int), ov, .int .i64 bad]) :: CO ++ CP') w := hs)
            | (replace hs : St w0 _ ((s, row 91 [.slice A l.length c, .int .i64 ((a + 1 : Nat) : Int), ov, .int .i64 bad]) :: CO ++ CP) w := hs))
          | (go_at_call 61; refine (while_t (at_ := a + 1) 89 quoI t ht.out tells89 ent89 (by omega) (hs.at 0 rfl) (txt1 hT.out hs (by simp)) (by omega)).mono ?_; rintro e w ⟨m, hm, rfl, hs'⟩; have hs2 : St w0 _ ((s, row 91 [.slice A l.length c, .int .i64 m, ov, .int .i64 bad]) :: CO ++ CP) w := St.callL (H := [(s, _)]) (B := CO ++ CP) hs hs'; clear hs' hs; have hs := hs2; clear hs2; have hml := hm.le)
          | ((with_reducible refine gd_bs ?_); refine wl_of rfl (hs.bs1 el58 (by decide) rfl (vs := [.string t]) rfl rfl ?_); intro gb w hgb hs; replace hs : St w0 _ (((gb, row 9 [.string t]) :: (s, row 91 [.slice A l.length c, .int .i64 m, ov, .int .i64 bad]) :: CO) ++ CP ++ []) w := (by rw [List.append_nil]; exact hs))
          | ((with_reducible refine gd_ap ?_); refine wl_of rfl (St.app (_ :: _ :: CO) [] hs el58 hsp.out (m := 1) (by first | exact ev rfl | rfl) (by first | exact ev rfl | rfl) (news := [.string t]) rfl (cells_at (hs.at 0 rfl)) (by simp [Value.oneCell']) (by unfold maxLen; omega) (by omega) ?_); intro pv' CP' w hs hsp'; replace hsp' := hid hsp'; replace hs : St w0 _ ((s, row 91 [.slice A l.length c, .int .i64 m, ov, .int .i64 bad]) :: CO ++ CP') w := (St.drop (A := [_]) (by rw [List.append_nil] at hs; exact hs)))
          | (go_at_call 63; first
            | (refine (is_e true (by rw [hm.eq]; exact h34.out) (hs.at 0 rfl) (txt1 hT.out hs (by simp))).mono ?_; rintro e w ⟨rfl, hq⟩; replace hs := hs.quiet hq; clear hq)
            | (refine (is_e (at_ := m + 1) _ rfl (hs.at 0 rfl) (txt1 hT.out hs (by simp))).mono ?_; rintro e w ⟨rfl, hq⟩; replace hs := hs.quiet hq; clear hq))
          | (go_at_call 73; refine (fail_e (hs.at 0 rfl)).mono ?_; rintro e w ⟨rfl, hs'⟩; have hs2 := St.callL (H := [(s, _)]) (B := CO ++ CP') hs hs'; clear hs' hs; have hs := hs2; clear hs2))
        have e34 : nextI l m 34 = true := by rw [hm.eq]; exact h34.out
        have em := hm.eq
        have hlm := nextI_lt e34
        have hst' := hst.out.step hm ht.out e34
        go_roundg (l.length + 1 - (m + 1))
        case measure => omega
        case rel => exact ⟨ps ++ [t], CP', m + 1, nextI l (m + 1) 34, rfl, rfl, by omega, by simp; omega, hid hst', hid (by simpa using hsp'.out), hs⟩
      | false =>
        replace h34 := hid h34
        go_wp2_with (first
          | ((with_reducible refine gd_ld ?_); first | refine wl_of rfl (hs.ld 0 rfl rfl (sc_of rfl) rfl ?_))
          | ((with_reducible refine gd_st ?_); refine wl_of rfl (hs.st0 0 rfl rfl (sc_of rfl) rfl (by rfl) (Nat.le_of_ble_eq_true rfl) ?_); intro w hs; first
            | (replace hs : St w0 _ ((s, row 91 [.slice A l.length c, .int .i64 ((m + 1 : Nat) : Int), ov, .int .i64 bad]) :: CO ++ CP') w := hs)
            | (replace hs : St w0 _ ((s, row 91 [.slice A l.length c, .int .i64 ((a + 1 : Nat) : Int), ov, .int .i64 bad]) :: CO ++ CP) w := hs))
          | (go_at_call 61; refine (while_t (at_ := a + 1) 89 quoI t ht.out tells89 ent89 (by omega) (hs.at 0 rfl) (txt1 hT.out hs (by simp)) (by omega)).mono ?_; rintro e w ⟨m, hm, rfl, hs'⟩; have hs2 : St w0 _ ((s, row 91 [.slice A l.length c, .int .i64 m, ov, .int .i64 bad]) :: CO ++ CP) w := St.callL (H := [(s, _)]) (B := CO ++ CP) hs hs'; clear hs' hs; have hs := hs2; clear hs2; have hml := hm.le)
          | ((with_reducible refine gd_bs ?_); refine wl_of rfl (hs.bs1 el58 (by decide) rfl (vs := [.string t]) rfl rfl ?_); intro gb w hgb hs; replace hs : St w0 _ (((gb, row 9 [.string t]) :: (s, row 91 [.slice A l.length c, .int .i64 m, ov, .int .i64 bad]) :: CO) ++ CP ++ []) w := (by rw [List.append_nil]; exact hs))
          | ((with_reducible refine gd_ap ?_); refine wl_of rfl (St.app (_ :: _ :: CO) [] hs el58 hsp.out (m := 1) (by first | exact ev rfl | rfl) (by first | exact ev rfl | rfl) (news := [.string t]) rfl (cells_at (hs.at 0 rfl)) (by simp [Value.oneCell']) (by unfold maxLen; omega) (by omega) ?_); intro pv' CP' w hs hsp'; replace hsp' := hid hsp'; replace hs : St w0 _ ((s, row 91 [.slice A l.length c, .int .i64 m, ov, .int .i64 bad]) :: CO ++ CP') w := (St.drop (A := [_]) (by rw [List.append_nil] at hs; exact hs)))
          | (go_at_call 63; first
            | (refine (is_e false (by rw [hm.eq]; exact h34.out) (hs.at 0 rfl) (txt1 hT.out hs (by simp))).mono ?_; rintro e w ⟨rfl, hq⟩; replace hs := hs.quiet hq; clear hq)
            | (refine (is_e (at_ := m + 1) _ rfl (hs.at 0 rfl) (txt1 hT.out hs (by simp))).mono ?_; rintro e w ⟨rfl, hq⟩; replace hs := hs.quiet hq; clear hq))
          | (go_at_call 73; refine (fail_e (hs.at 0 rfl)).mono ?_; rintro e w ⟨rfl, hs'⟩; have hs2 := St.callL (H := [(s, _)]) (B := CO ++ CP') hs hs'; clear hs' hs; have hs := hs2; clear hs2))
        go_end0
        have hb := hst.out.bad hm (by rw [hm.eq]; exact h34.out)
        have hr' := hr.out
        rw [hb.1] at hr'
        subst hr'
        exact TokPost.wrong (St.keep (A := (s, _) :: CO) (B := CP') hs) (by have := hb.2; omega)
    | false =>
      obtain ⟨qs, q, rfl, hpa, hal, hR⟩ := hst.out.fin
      have hr' := hr.out
      rw [hR] at hr'
      subst hr'
      obtain ⟨g, cap, junk, rfl, rfl, hcl, hcm, hnc⟩ : ∃ g cap junk, u4 = .slice (some ⟨g, 0, none⟩) (qs ++ [q]).length cap ∧ CP = [(g, row 9 ((qs ++ [q]).map Value.string ++ junk))] ∧ ((qs ++ [q]).map Value.string ++ junk).length = cap * 1 ∧ cap ≤ maxLen ∧ (qs ++ [q]).length ≤ cap := by
        rcases hsp.out.2 with ⟨_, h0, _⟩ | ⟨g, cap, junk, e1, e2, e3, e4, e5⟩
        · simp at h0
        · exact ⟨g, cap, junk, e1, e2, e3, e4, e5⟩
      have hjn := fun w h => join_e (w := w) (g := g) (c := cap) (qs := qs) (q := q) (junk := junk) h (by omega) hnc (by
        have h1 := strL_text (l.drop (p + 1)).length (l.drop (p + 1)) (Nat.le_refl _) _ _ hR
        omega)
      replace hjn := hid hjn
      replace hR := hid hR
      clear hcl hcm hnc hsp hst hr
      have hnum : (qs ++ [q]).length ≤ l.length := by omega
      generalize hL : (qs ++ [q]).length = L at *
      replace hL := hid hL
      go_wp2_with (first
        | (go_at_call 90; refine (hjn.out _ (hs.has.known (g, row 9 ((qs ++ [q]).map Value.string ++ junk)) (by simp))).mono ?_; rintro e w ⟨rfl, hb⟩; replace hs := hs.above hb; clear hb)
        | (go_at_call 85; refine (put_e hsl.out hn hs.has.left).mono ?_; rintro e w ⟨rfl, ov', CO', hsl', hs'⟩; have hs2 := St.callL hs hs'; clear hs' hs; have hs := hs2; clear hs2))
      go_end0
      exact TokPost.good hsl'.out (St.keep (A := (s, _) :: CO') hs) (by omega)
end Go.Proofs.Ytclingkhdmhhoaa

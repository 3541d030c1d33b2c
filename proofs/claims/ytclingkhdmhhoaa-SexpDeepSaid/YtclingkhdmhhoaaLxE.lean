/- The walks of lex's reader: a token. No condition. -/
import Derived.Test.YtclingkhdmhhoaaLxD
import Derived.Test.YtclingkhdmhhoaaTail
namespace Go.Proofs.Ytclingkhdmhhoaa
open Go.RowKit
set_option linter.unusedSimpArgs false
set_option linter.unusedVariables false

theorem cf85 (args : Array Value) (w : World) : (callFunc 85 args).run Try.prog w = .ok (.enter 85 args) w := by go_simp
/-- what a token's reader leaves -/
def TokPost (w0 : World) (s : Nat) (tv ov : Value) (bad : Int) (out : List Tok) (CO : List (Nat × Obj)) (p : Nat) (r : Except Nat (Int × List UInt8 × Nat)) (e : Ending) (w' : World) : Prop :=
  e = .returned (.tuple #[]) ∧ match r with
  | .ok (kd, t, m) => ∃ ov' CO', Sl 54 3 ov' (out.length + 1) (tcells (out ++ [⟨kd, t, p⟩])) CO' ∧ St w0 (s :: keys CO) ((s, row 91 [tv, .int .i64 ((p + m : Nat) : Int), ov', .int .i64 bad]) :: CO') w'
  | .error k => ∃ a, St w0 (s :: keys CO) ((s, row 91 [tv, a, ov, .int .i64 ((p + k : Nat) : Int)]) :: CO) w'
theorem TokPost.good {w0 : World} {s : Nat} {tv ov ov' : Value} {bad : Int} {out : List Tok} {CO CO' : List (Nat × Obj)} {p m : Nat} {kd : Int} {t : List UInt8} {w' : World} {at_ : Int} (hsl : Sl 54 3 ov' (out.length + 1) (tcells (out ++ [⟨kd, t, p⟩])) CO')
    (hs : St w0 (s :: keys CO) ((s, row 91 [tv, .int .i64 at_, ov', .int .i64 bad]) :: CO') w') (ha : at_ = ((p + m : Nat) : Int)) : TokPost w0 s tv ov bad out CO p (.ok (kd, t, m)) (.returned (.tuple #[])) w' := by subst ha; exact ⟨rfl, _, _, hsl, hs⟩
theorem TokPost.wrong {w0 : World} {s : Nat} {tv ov a : Value} {bad b : Int} {out : List Tok} {CO : List (Nat × Obj)} {p k : Nat} {w' : World}
    (hs : St w0 (s :: keys CO) ((s, row 91 [tv, a, ov, .int .i64 b]) :: CO) w') (hb : b = ((p + k : Nat) : Int)) : TokPost w0 s tv ov bad out CO p (.error k) (.returned (.tuple #[])) w' := by subst hb; exact ⟨rfl, _, hs⟩

/-- what a token's reader finds -/
structure Ready (w0 : World) (s : Nat) (l : List UInt8) (A : Option Addr) (c p : Nat) (ov : Value) (bad : Int) (out : List Tok) (CO : List (Nat × Obj)) : Prop where
  has : Has w0 ((s, row 91 [.slice A l.length c, .int .i64 p, ov, .int .i64 bad]) :: CO)
  txt : Txt w0 (s :: keys CO) (.slice A l.length c) l
  own : Sl 54 3 ov out.length (tcells out) CO
  lt : p < l.length
  len : l.length ≤ 1048576
  num : out.length ≤ 1048576

theorem txt1 {w0 w : World} {D : List Nat} {H : List (Nat × Obj)} {v : Value} {l : List UInt8} {s : Nat} (h : Txt w0 D v l) (hs : St w0 D H w) (hm : s ∈ keys H) : Txt w [s] v l :=
  (h.via hs).start fun b hb => by rw [List.mem_singleton.1 hb]; exact hm
theorem put_e {w0 : World} {s : Nat} {at_ : Value} {tv ov bad : Value} {out : List Tok} {CO : List (Nat × Obj)} {k a : Int} {t : ByteArray} (hsl : Sl 54 3 ov out.length (tcells out) CO) (hn : out.length ≤ 1048576) (h : Has w0 ((s, row 91 [tv, at_, ov, bad]) :: CO)) :
    Calls Try.prog 85 #[.pointer (some ⟨s, 0, none⟩), .int .i64 k, .int .i64 a, .string t] w0 fun e w' => e = .returned (.tuple #[]) ∧
      ∃ ov' CO', Hid (Sl 54 3 ov' (out.length + 1) (tcells (out ++ [⟨k, t.data.toList, a⟩])) CO') ∧ St w0 (keys ((s, row 91 [tv, at_, ov, bad]) :: CO)) ((s, row 91 [tv, at_, ov', bad]) :: CO') w' := put_c h hsl (by omega)

set_option maxHeartbeats 1000000 in
set_option maxRecDepth 4000 in
theorem sym_c {w0 : World} {s p c : Nat} {l : List UInt8} {A : Option Addr} {ov : Value} {bad : Int} {out : List Tok} {CO : List (Nat × Obj)} (h : Ready w0 s l A c p ov bad out CO) :
    Calls Try.prog 65 #[.pointer (some ⟨s, 0, none⟩), .int .i64 p] w0 (TokPost w0 s (.slice A l.length c) ov bad out CO p (.ok (3, (l.drop p).take (spanN innerI (l.drop p)), spanN innerI (l.drop p)))) := by
  obtain ⟨hh, hT, hsl, hlt, hl, hn⟩ := h
  have hs : St w0 (s :: keys CO) ([(s, row 91 [.slice A l.length c, .int .i64 p, ov, .int .i64 bad])] ++ CO) w0 := St.start hh
  replace hT := hid hT
  replace hsl := hid hsl
  clear hh
  go_enter Try.func65, Try.ntmps65
  go_wp2_with (first
    | (go_at_call 61; refine (while_e 86 innerI tells86 ent86 (by omega) (hs.at 0 rfl) (txt1 hT.out hs (by simp)) (by omega)).mono ?_; rintro e w ⟨m, hm, rfl, hs'⟩; replace hs := St.callL hs hs'; clear hs')
    | (go_at_call 85; refine (put_e hsl.out hn hs.has).mono ?_; rintro e w ⟨rfl, ov', CO', hsl', hs'⟩; replace hs := hs.trans hs'; clear hs'))
  go_end0
  have e := hm.eq
  have e1 : m - p = spanN innerI (l.drop p) := by omega
  rw [e1] at hsl'
  exact TokPost.good hsl'.out hs (by omega)

theorem while_t {w0 : World} {s at_ : Nat} {l : List UInt8} {A : Option Addr} {c : Nat} {ov bad : Value} (f : Nat) (p : Int → Bool) (t : ByteArray) (hT' : (l.drop at_).take (spanN p (l.drop at_)) = t.data.toList) (hf : Tells f p) (hcf : Ent f) (hl : l.length ≤ 1073741824)
    (h : w0.heap[s]? = some (row 91 [.slice A l.length c, .int .i64 at_, ov, bad])) (hT : Txt w0 [s] (.slice A l.length c) l) (hat : at_ ≤ l.length) :
    Calls Try.prog 61 #[.pointer (some ⟨s, 0, none⟩), .func (.func f) #[] #[]] w0 fun e w' => ∃ m : Nat, Upto p l at_ m ∧ e = .returned (.string t) ∧ St w0 [s] [(s, row 91 [.slice A l.length c, .int .i64 m, ov, bad])] w' :=
  (while_d hf hcf hl h hT hat).mono fun e w' ⟨he, hs⟩ => ⟨_, ⟨rfl, span_at_le p hat, span_at_end p l at_⟩, by rw [he, hT']; rfl, hs⟩
theorem string_of (T : List UInt8) : ∃ t : ByteArray, t.data.toList = T := ⟨⟨T.toArray⟩, rfl⟩
theorem tok_of {l : List UInt8} {p : Nat} {x : UInt8} (h : l[p]? = some x) : tokL (l.drop p) = tokC x (l.drop (p + 1)) := by
  have hlt : p < l.length := (List.getElem?_eq_some_iff.1 h).1
  rw [List.drop_eq_getElem_cons hlt, (List.getElem?_eq_some_iff.1 h).2]; rfl
theorem fail_e {w0 : World} {s : Nat} {at_ : Int} {tv ov bad : Value} (h : w0.heap[s]? = some (row 91 [tv, .int .i64 at_, ov, bad])) :
    Calls Try.prog 73 #[.pointer (some ⟨s, 0, none⟩)] w0 fun e w' => e = .returned (.tuple #[]) ∧ St w0 [s] [(s, row 91 [tv, .int .i64 at_, ov, .int .i64 at_])] w' := fail_c h

set_option maxHeartbeats 1000000 in
set_option maxRecDepth 4000 in
theorem key_c {w0 : World} {s p c : Nat} {l : List UInt8} {A : Option Addr} {ov : Value} {bad : Int} {out : List Tok} {CO : List (Nat × Obj)} (h : Ready w0 s l A c p ov bad out CO) (r : Except Nat (Int × List UInt8 × Nat))
    (hr : (if spanN innerI (l.drop (p + 1)) = 0 then Except.error 1 else Except.ok (6, (l.drop (p + 1)).take (spanN innerI (l.drop (p + 1))), spanN innerI (l.drop (p + 1)) + 1)) = r) :
    Calls Try.prog 70 #[.pointer (some ⟨s, 0, none⟩), .int .i64 p] w0 (TokPost w0 s (.slice A l.length c) ov bad out CO p r) := by
  obtain ⟨hh, hT, hsl, hlt, hl, hn⟩ := h
  have hs : St w0 (s :: keys CO) ([(s, row 91 [.slice A l.length c, .int .i64 p, ov, .int .i64 bad])] ++ CO) w0 := St.start hh
  replace hT := hid hT
  replace hsl := hid hsl
  clear hh
  have htk : ((l.drop (p + 1)).take (spanN innerI (l.drop (p + 1)))).length = spanN innerI (l.drop (p + 1)) := by rw [List.length_take]; have := spanN_le innerI (l.drop (p + 1)); omega
  by_cases h0 : spanN innerI (l.drop (p + 1)) = 0
  · have htx : (l.drop (p + 1)).take (spanN innerI (l.drop (p + 1))) = (⟨#[]⟩ : ByteArray).data.toList := by rw [h0]; rfl
    rw [if_pos h0] at hr
    subst hr
    replace htx := hid htx
    replace h0 := hid h0
    clear htk
    go_enter Try.func70, Try.ntmps70
    go_wp2_with (first
      | ((with_reducible refine gd_ld ?_); first | refine wl_of rfl (hs.ld 0 rfl rfl (sc_of rfl) rfl ?_))
      | ((with_reducible refine gd_st ?_); refine wl_of rfl (hs.st0 0 rfl rfl (sc_of rfl) rfl (by rfl) (Nat.le_of_ble_eq_true rfl) ?_); intro w hs; replace hs : St w0 _ ([(s, row 91 [.slice A l.length c, .int .i64 ((p + 1 : Nat) : Int), ov, .int .i64 bad])] ++ CO) w := hs)
      | (go_at_call 61; refine (while_t (at_ := p + 1) 86 innerI ⟨#[]⟩ htx.out tells86 ent86 (by omega) (hs.at 0 rfl) (txt1 hT.out hs (by simp)) (by omega)).mono ?_; rintro e w ⟨m, hm, rfl, hs'⟩; replace hs := St.callL hs hs'; clear hs')
      | (go_at_call 73; refine (fail_e (hs.at 0 rfl)).mono ?_; rintro e w ⟨rfl, hs'⟩; replace hs := St.callL hs hs'; clear hs'))
    go_end0
    exact TokPost.wrong hs (by have := hm.eq; have := h0.out; omega)
  · rw [if_neg h0] at hr
    obtain ⟨t, ht⟩ := string_of ((l.drop (p + 1)).take (spanN innerI (l.drop (p + 1))))
    rw [← ht] at hr htk
    replace ht := hid ht.symm
    subst hr
    have h2 : t.toList.isEmpty = false := by rw [ByteArray.toList_eq]; cases hd : t.data.toList with
      | nil => rw [hd] at htk; exact absurd htk.symm h0
      | cons a b => rfl
    replace h0 := hid h0
    replace htk := hid htk
    go_enter Try.func70, Try.ntmps70
    go_wp2_with (first
      | ((with_reducible refine gd_ld ?_); first | refine wl_of rfl (hs.ld 0 rfl rfl (sc_of rfl) rfl ?_))
      | ((with_reducible refine gd_st ?_); refine wl_of rfl (hs.st0 0 rfl rfl (sc_of rfl) rfl (by rfl) (Nat.le_of_ble_eq_true rfl) ?_); intro w hs; replace hs : St w0 _ ([(s, row 91 [.slice A l.length c, .int .i64 ((p + 1 : Nat) : Int), ov, .int .i64 bad])] ++ CO) w := hs)
      | (go_at_call 61; refine (while_t (at_ := p + 1) 86 innerI t ht.out tells86 ent86 (by omega) (hs.at 0 rfl) (txt1 hT.out hs (by simp)) (by omega)).mono ?_; rintro e w ⟨m, hm, rfl, hs'⟩; replace hs := St.callL hs hs'; clear hs')
      | (go_at_call 85; refine (put_e hsl.out hn hs.has).mono ?_; rintro e w ⟨rfl, ov', CO', hsl', hs'⟩; replace hs := hs.trans hs'; clear hs'))
    go_end0
    exact TokPost.good hsl'.out hs (by have := hm.eq; omega)

set_option maxHeartbeats 1000000 in
set_option maxRecDepth 4000 in
theorem quoted_c {w0 : World} {s p c : Nat} {l : List UInt8} {A : Option Addr} {ov : Value} {bad : Int} {out : List Tok} {CO : List (Nat × Obj)} (h : Ready w0 s l A c p ov bad out CO) (r : Except Nat (Int × List UInt8 × Nat))
    (hr : (if nextI (l.drop (p + 1)) (spanN barI (l.drop (p + 1))) 124 = true then Except.ok (3, (l.drop (p + 1)).take (spanN barI (l.drop (p + 1))), spanN barI (l.drop (p + 1)) + 2) else Except.error (spanN barI (l.drop (p + 1)) + 1)) = r) :
    Calls Try.prog 67 #[.pointer (some ⟨s, 0, none⟩), .int .i64 p] w0 (TokPost w0 s (.slice A l.length c) ov bad out CO p r) := by
  obtain ⟨hh, hT, hsl, hlt, hl, hn⟩ := h
  have hs : St w0 (s :: keys CO) ([(s, row 91 [.slice A l.length c, .int .i64 p, ov, .int .i64 bad])] ++ CO) w0 := St.start hh
  replace hT := hid hT
  replace hsl := hid hsl
  clear hh
  obtain ⟨t, ht⟩ := string_of ((l.drop (p + 1)).take (spanN barI (l.drop (p + 1))))
  rw [← ht, nextI_drop] at hr
  replace ht := hid ht.symm
  cases hb : nextI l (p + 1 + spanN barI (l.drop (p + 1))) 124 with
  | true =>
    rw [hb, if_pos rfl] at hr
    subst hr
    replace hb := hid hb
    go_enter Try.func67, Try.ntmps67
    go_wp2_with (first
      | ((with_reducible refine gd_ld ?_); first | refine wl_of rfl (hs.ld 0 rfl rfl (sc_of rfl) rfl ?_))
      | ((with_reducible refine gd_st ?_); refine wl_of rfl (hs.st0 0 rfl rfl (sc_of rfl) rfl (by rfl) (Nat.le_of_ble_eq_true rfl) ?_); intro w hs; first
        | (replace hs : St w0 _ ([(s, row 91 [.slice A l.length c, .int .i64 ((m + 1 : Nat) : Int), ov, .int .i64 bad])] ++ CO) w := hs)
        | (replace hs : St w0 _ ([(s, row 91 [.slice A l.length c, .int .i64 ((p + 1 : Nat) : Int), ov, .int .i64 bad])] ++ CO) w := hs))
      | (go_at_call 61; refine (while_t (at_ := p + 1) 87 barI t ht.out tells87 ent87 (by omega) (hs.at 0 rfl) (txt1 hT.out hs (by simp)) (by omega)).mono ?_; rintro e w ⟨m, hm, rfl, hs'⟩; replace hs := St.callL hs hs'; clear hs'; have hml := hm.le)
      | (go_at_call 63; refine (is_e true (by rw [hm.eq]; exact hb.out) (hs.at 0 rfl) (txt1 hT.out hs (by simp))).mono ?_; rintro e w ⟨rfl, hq⟩; replace hs := hs.quiet hq; clear hq)
      | (go_at_call 85; refine (put_e hsl.out hn hs.has).mono ?_; rintro e w ⟨rfl, ov', CO', hsl', hs'⟩; replace hs := hs.trans hs'; clear hs'))
    go_end0
    exact TokPost.good hsl'.out hs (by have := hm.eq; omega)
  | false =>
    rw [hb, if_neg (by simp)] at hr
    subst hr
    replace hb := hid hb
    go_enter Try.func67, Try.ntmps67
    go_wp2_with (first
      | ((with_reducible refine gd_ld ?_); first | refine wl_of rfl (hs.ld 0 rfl rfl (sc_of rfl) rfl ?_))
      | ((with_reducible refine gd_st ?_); refine wl_of rfl (hs.st0 0 rfl rfl (sc_of rfl) rfl (by rfl) (Nat.le_of_ble_eq_true rfl) ?_); intro w hs; replace hs : St w0 _ ([(s, row 91 [.slice A l.length c, .int .i64 ((p + 1 : Nat) : Int), ov, .int .i64 bad])] ++ CO) w := hs)
      | (go_at_call 61; refine (while_t (at_ := p + 1) 87 barI t ht.out tells87 ent87 (by omega) (hs.at 0 rfl) (txt1 hT.out hs (by simp)) (by omega)).mono ?_; rintro e w ⟨m, hm, rfl, hs'⟩; replace hs := St.callL hs hs'; clear hs')
      | (go_at_call 63; refine (is_e false (by rw [hm.eq]; exact hb.out) (hs.at 0 rfl) (txt1 hT.out hs (by simp))).mono ?_; rintro e w ⟨rfl, hq⟩; replace hs := hs.quiet hq; clear hq)
      | (go_at_call 73; refine (fail_e (hs.at 0 rfl)).mono ?_; rintro e w ⟨rfl, hs'⟩; replace hs := St.callL hs hs'; clear hs'))
    go_end0
    exact TokPost.wrong hs (by have := hm.eq; omega)

set_option maxHeartbeats 1000000 in
set_option maxRecDepth 4000 in
theorem paren_c {w0 : World} {s p c : Nat} {l : List UInt8} {A : Option Addr} {ov : Value} {bad : Int} {out : List Tok} {CO : List (Nat × Obj)} (h : Ready w0 s l A c p ov bad out CO) {x : UInt8} (hx : l[p]? = some x) (r : Except Nat (Int × List UInt8 × Nat))
    (hx4 : (x.toNat : Int) = 40 ∨ (x.toNat : Int) = 41) (hr : (if (x.toNat : Int) = 40 then Except.ok (1, [x], 1) else Except.ok (2, [x], 1)) = r) :
    Calls Try.prog 66 #[.pointer (some ⟨s, 0, none⟩), .int .i64 p] w0 (TokPost w0 s (.slice A l.length c) ov bad out CO p r) := by
  obtain ⟨hh, hT, hsl, hlt, hl, hn⟩ := h
  have hs : St w0 (s :: keys CO) ([(s, row 91 [.slice A l.length c, .int .i64 p, ov, .int .i64 bad])] ++ CO) w0 := St.start hh
  have hx1 : (l.drop p).take (p + 1 - p) = [x] := by
    rw [List.drop_eq_getElem_cons hlt, (List.getElem?_eq_some_iff.1 hx).2, show p + 1 - p = 1 by omega]; rfl
  have hnx : ∀ ch, nextI l p ch = ((x.toNat : Int) == ch) := fun ch => by simp [nextI, hx]
  obtain ⟨kd, b, hkd, hb⟩ : ∃ (kd : Int) (b : Bool), r = Except.ok (kd, [x], 1) ∧ (nextI l p 41 = b ∧ (b = true → kd = 2) ∧ (b = false → kd = 1)) := by
    rcases hx4 with h4 | h4
    · rw [if_pos h4] at hr
      exact ⟨1, false, hr.symm, by rw [hnx, h4]; rfl, by simp, by simp⟩
    · rw [if_neg (by omega)] at hr
      exact ⟨2, true, hr.symm, by rw [hnx, h4]; rfl, by simp, by simp⟩
  subst hkd
  obtain ⟨hb, hb1, hb2⟩ := hb
  replace hT := hid hT
  replace hsl := hid hsl
  replace hb := hid hb
  replace hx1 := hid hx1
  clear hh hr hx4 hx hnx
  have fin : ∀ (w : World), St w0 (s :: keys CO) ([(s, row 91 [.slice A l.length c, .int .i64 ((p + 1 : Nat) : Int), ov, .int .i64 bad])] ++ CO) w.drew → ∃ v', (Instr.sliceAt 43 (.slice A l.length c) (some (.int .i64 p)) (some (.int .i64 ((p + 1 : Nat) : Int))) none).run Try.prog w.drew = .ok v' w.drew ∧ (convert 43 9 v').run Try.prog w.drew = .ok (.string ⟨[x].toArray⟩) w.drew := by
    intro w hs
    obtain ⟨v', h1, h2⟩ := run_txt_slice (txt1 (s := s) hT.out hs (by simp)) (lo := p) (hi := p + 1) (by omega) (by omega) .i64 .i64
    have h3 := run_txt_string h2
    rw [hx1.out] at h3
    exact ⟨v', h1, h3⟩
  replace fin := hid fin
  have hput := fun w h => put_e (s := s) (tv := .slice A l.length c) (ov := ov) (bad := .int .i64 bad) (at_ := .int .i64 ((p + 1 : Nat) : Int)) (k := kd) (a := p) (t := ⟨[x].toArray⟩) (w0 := w) hsl.out hn h
  replace hput := hid hput
  cases b with
  | true =>
    obtain rfl := hb1 rfl
    clear hb1 hb2
    go_enter Try.func66, Try.ntmps66
    go_wp2_with (first
      | ((with_reducible refine gd_ld ?_); first | refine wl_of rfl (hs.ld 0 rfl rfl (sc_of rfl) rfl ?_))
      | ((with_reducible refine gd_st ?_); refine wl_of rfl (hs.st0 0 rfl rfl (sc_of rfl) rfl (by rfl) (Nat.le_of_ble_eq_true rfl) ?_); intro w hs; replace hs : St w0 _ ([(s, row 91 [.slice A l.length c, .int .i64 ((p + 1 : Nat) : Int), ov, .int .i64 bad])] ++ CO) w := hs)
      | (go_at_call 63; refine (is_e true hb.out (hs.at 0 rfl) (txt1 hT.out hs (by simp))).mono ?_; rintro e w ⟨rfl, hq⟩; replace hs := hs.quiet hq; clear hq))
    have hs := hs.drew
    obtain ⟨v', f1, f2⟩ := fin.out w hs
    have hpt := (hput.out w.drew hs.has).mono (R' := fun e w' => e = .returned (.tuple #[]) ∧ TokPost w0 s (.slice A l.length c) ov bad out CO p (.ok (2, [x], 1)) (.returned (.tuple #[])) w') (fun e w' ⟨he, ov', CO', h1, h2⟩ => ⟨he, TokPost.good h1.out (hs.trans h2) rfl⟩)
    refine wp_region_tail 14 (fun w' => TokPost w0 s (.slice A l.length c) ov bad out CO p (.ok (2, [x], 1)) (.returned (.tuple #[])) w') follows (by kernel_rfl) (by kernel_rfl) ?_
    refine LinT.rd rfl (by decide) ((ex_move (ev rfl)) _) (pu rfl (by simp only [List.set_cons_succ, List.set_cons_zero]; rfl)) ?_
    refine LinT.rd rfl (by decide) ((ex_move (ev rfl)) _) (pu rfl (by simp only [List.set_cons_succ, List.set_cons_zero]; rfl)) ?_
    refine LinT.rd rfl (by decide) ((ex_move (ev rfl)) _) (pu rfl (by simp only [List.set_cons_succ, List.set_cons_zero]; rfl)) ?_
    refine LinT.rd rfl (by decide) ((ex_move (ev rfl)) _) (pu rfl (by simp only [List.set_cons_succ, List.set_cons_zero]; rfl)) ?_
    refine LinT.rd rfl (by decide) ((ex_nilCheck (ev rfl)) _) (pu rfl (by simp only [List.set_cons_succ, List.set_cons_zero]; rfl)) ?_
    refine LinT.rd rfl (by decide) ((ex_fieldAddr fa91_0 (ev rfl)) _) (pu rfl (by simp only [List.set_cons_succ, List.set_cons_zero]; rfl)) ?_
    refine LinT.rd rfl (by decide) (ex_ld_s (ev rfl) sc43 (row_cell (hs.at 0 rfl) 0)) (pu rfl (by simp only [List.set_cons_succ, List.set_cons_zero]; rfl)) ?_
    refine LinT.rd rfl (by decide) ((ex_move (ev rfl)) _) (pu rfl (by simp only [List.set_cons_succ, List.set_cons_zero]; rfl)) ?_
    refine LinT.rd rfl (by decide) ((ex_move (ev rfl)) _) (pu rfl (by simp only [List.set_cons_succ, List.set_cons_zero]; rfl)) ?_
    refine LinT.rd rfl (by decide) ((ex_nilCheck (ev rfl)) _) (pu rfl (by simp only [List.set_cons_succ, List.set_cons_zero]; rfl)) ?_
    refine LinT.rd rfl (by decide) ((ex_fieldAddr fa91_1 (ev rfl)) _) (pu rfl (by simp only [List.set_cons_succ, List.set_cons_zero]; rfl)) ?_
    refine LinT.rd rfl (by decide) (ex_ld_s (ev rfl) sc3 (row_cell (hs.at 0 rfl) 1)) (pu rfl (by simp only [List.set_cons_succ, List.set_cons_zero]; rfl)) ?_
    refine LinT.rd rfl (by decide) (ex_slc (ev rfl) (ev rfl) (ev rfl) f1) (pu rfl (by simp only [List.set_cons_succ, List.set_cons_zero]; rfl)) ?_
    refine LinT.rd rfl (by decide) (ex_cnv (ev rfl) f2) (pu rfl (by simp only [List.set_cons_succ, List.set_cons_zero]; rfl)) ?_
    refine LinT.call rfl rfl (ex_call rfl rfl (cf85 _ _)) (hpt) (pu rfl (by simp only [List.set_cons_succ, List.set_cons_zero]; rfl)) ?_
    refine LinT.done ?_
    intro w' hw'
    refine bodyPost_end (results_none rfl _ _ _) rfl hw'
  | false =>
    obtain rfl := hb2 rfl
    clear hb1 hb2
    go_enter Try.func66, Try.ntmps66
    go_wp2_with (first
      | ((with_reducible refine gd_ld ?_); first | refine wl_of rfl (hs.ld 0 rfl rfl (sc_of rfl) rfl ?_))
      | ((with_reducible refine gd_st ?_); refine wl_of rfl (hs.st0 0 rfl rfl (sc_of rfl) rfl (by rfl) (Nat.le_of_ble_eq_true rfl) ?_); intro w hs; replace hs : St w0 _ ([(s, row 91 [.slice A l.length c, .int .i64 ((p + 1 : Nat) : Int), ov, .int .i64 bad])] ++ CO) w := hs)
      | (go_at_call 63; refine (is_e false hb.out (hs.at 0 rfl) (txt1 hT.out hs (by simp))).mono ?_; rintro e w ⟨rfl, hq⟩; replace hs := hs.quiet hq; clear hq))
    have hs := hs.drew
    obtain ⟨v', f1, f2⟩ := fin.out w hs
    have hpt := (hput.out w.drew hs.has).mono (R' := fun e w' => e = .returned (.tuple #[]) ∧ TokPost w0 s (.slice A l.length c) ov bad out CO p (.ok (1, [x], 1)) (.returned (.tuple #[])) w') (fun e w' ⟨he, ov', CO', h1, h2⟩ => ⟨he, TokPost.good h1.out (hs.trans h2) rfl⟩)
    refine wp_region_tail 14 (fun w' => TokPost w0 s (.slice A l.length c) ov bad out CO p (.ok (1, [x], 1)) (.returned (.tuple #[])) w') follows (by kernel_rfl) (by kernel_rfl) ?_
    refine LinT.rd rfl (by decide) ((ex_move (ev rfl)) _) (pu rfl (by simp only [List.set_cons_succ, List.set_cons_zero]; rfl)) ?_
    refine LinT.rd rfl (by decide) ((ex_move (ev rfl)) _) (pu rfl (by simp only [List.set_cons_succ, List.set_cons_zero]; rfl)) ?_
    refine LinT.rd rfl (by decide) ((ex_move (ev rfl)) _) (pu rfl (by simp only [List.set_cons_succ, List.set_cons_zero]; rfl)) ?_
    refine LinT.rd rfl (by decide) ((ex_move (ev rfl)) _) (pu rfl (by simp only [List.set_cons_succ, List.set_cons_zero]; rfl)) ?_
    refine LinT.rd rfl (by decide) ((ex_nilCheck (ev rfl)) _) (pu rfl (by simp only [List.set_cons_succ, List.set_cons_zero]; rfl)) ?_
    refine LinT.rd rfl (by decide) ((ex_fieldAddr fa91_0 (ev rfl)) _) (pu rfl (by simp only [List.set_cons_succ, List.set_cons_zero]; rfl)) ?_
    refine LinT.rd rfl (by decide) (ex_ld_s (ev rfl) sc43 (row_cell (hs.at 0 rfl) 0)) (pu rfl (by simp only [List.set_cons_succ, List.set_cons_zero]; rfl)) ?_
    refine LinT.rd rfl (by decide) ((ex_move (ev rfl)) _) (pu rfl (by simp only [List.set_cons_succ, List.set_cons_zero]; rfl)) ?_
    refine LinT.rd rfl (by decide) ((ex_move (ev rfl)) _) (pu rfl (by simp only [List.set_cons_succ, List.set_cons_zero]; rfl)) ?_
    refine LinT.rd rfl (by decide) ((ex_nilCheck (ev rfl)) _) (pu rfl (by simp only [List.set_cons_succ, List.set_cons_zero]; rfl)) ?_
    refine LinT.rd rfl (by decide) ((ex_fieldAddr fa91_1 (ev rfl)) _) (pu rfl (by simp only [List.set_cons_succ, List.set_cons_zero]; rfl)) ?_
    refine LinT.rd rfl (by decide) (ex_ld_s (ev rfl) sc3 (row_cell (hs.at 0 rfl) 1)) (pu rfl (by simp only [List.set_cons_succ, List.set_cons_zero]; rfl)) ?_
    refine LinT.rd rfl (by decide) (ex_slc (ev rfl) (ev rfl) (ev rfl) f1) (pu rfl (by simp only [List.set_cons_succ, List.set_cons_zero]; rfl)) ?_
    refine LinT.rd rfl (by decide) (ex_cnv (ev rfl) f2) (pu rfl (by simp only [List.set_cons_succ, List.set_cons_zero]; rfl)) ?_
    refine LinT.call rfl rfl (ex_call rfl rfl (cf85 _ _)) (hpt) (pu rfl (by simp only [List.set_cons_succ, List.set_cons_zero]; rfl)) ?_
    refine LinT.done ?_
    intro w' hw'
    refine bodyPost_end (results_none rfl _ _ _) rfl hw'
end Go.Proofs.Ytclingkhdmhhoaa

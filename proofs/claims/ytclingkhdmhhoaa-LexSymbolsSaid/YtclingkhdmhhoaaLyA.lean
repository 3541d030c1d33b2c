/- The walk of lex.Symbol. No condition. -/
import Derived.Test.YtclingkhdmhhoaaLxV
import Derived.Deep.Cut
namespace Go.Proofs.Ytclingkhdmhhoaa
open Go.RowKit
set_option linter.unusedSimpArgs false
set_option linter.unusedVariables false

/-- does this text read as one symbol with that name? -/
def symB (x s : ByteArray) : Bool := match readC x.data.toList 0 with
  | .ok ts => toksB ts [⟨3, s.data.toList, 0⟩]
  | .error _ => false
def barS (s : ByteArray) : ByteArray := ⟨#[124]⟩ ++ s ++ ⟨#[124]⟩
theorem barS_size (s : ByteArray) : (barS s).size = s.size + 2 := by
  unfold barS
  rw [ByteArray.size_append, ByteArray.size_append, show (⟨#[124]⟩ : ByteArray).size = 1 from rfl]; omega
theorem symB_true {x s : ByteArray} (h : symB x s = true) : readC x.data.toList 0 = .ok [⟨3, s.data.toList, 0⟩] := by
  unfold symB at h
  cases hr : readC x.data.toList 0 with
  | error k => rw [hr] at h; cases h
  | ok ts => rw [hr] at h; rw [toksB_eq.1 h]
theorem symB_false {x s : ByteArray} (h : symB x s = false) : (∃ k, readC x.data.toList 0 = .error k) ∨ (∃ ts, readC x.data.toList 0 = .ok ts ∧ ts.length ≠ 1) ∨ (∃ t, readC x.data.toList 0 = .ok [t] ∧ tokB t ⟨3, s.data.toList, 0⟩ = false) := by
  unfold symB at h
  cases hr : readC x.data.toList 0 with
  | error k => exact .inl ⟨k, rfl⟩
  | ok ts =>
    rw [hr] at h
    match ts, h with
    | [], h => exact .inr (.inl ⟨[], rfl, by simp⟩)
    | [t], h => exact .inr (.inr ⟨t, rfl, by simpa [toksB] using h⟩)
    | a :: b :: r, h => exact .inr (.inl ⟨_, rfl, by simp⟩)
theorem c2b_run (w : World) (s : ByteArray) (hb : s.size ≤ 1048576) : ∃ g c w', (convert 9 43 (.string s)).run Try.prog w = .ok (.slice (some ⟨g, 0, none⟩) s.size c) w' ∧ Txt w' [] (.slice (some ⟨g, 0, none⟩) s.size c) s.data.toList ∧ (∀ w0 D H, St w0 D H w → St w0 D H w') := by
  have h := run_bytes_of_string (P := Try.prog) w 9 43 5 s Try.underlying9 Try.underlying43 Try.underlying5
  refine ⟨_, _, _, h, ?_, ?_⟩
  · have hge := grownCap_ge w s.size 0 5
    have hle := grownCap_le_maxLen w s.size 0 5 (by unfold maxLen; omega)
    have hlen : s.data.toList.length = s.size := rfl
    refine ⟨_, _, by rw [hlen], by rw [hlen]; exact hge, hle, .inr ⟨_, 0, rfl, by simp, by simp, fun i x hx => ?_⟩⟩
    have hi : i < s.data.toList.length := (List.getElem?_eq_some_iff.1 hx).1
    have hi2 : i < s.data.size := by simpa using hi
    have hn := heap_alloc_new w.drew (.cells (bytesRow s (grownCap w s.size 0 5)) 5 ((bytesRow s (grownCap w s.size 0 5)).size, (bytesRow s (grownCap w s.size 0 5)).size + 1))
    rw [Nat.zero_add]
    have e : w.drew.heap.size = w.heap.size := rfl
    rw [e] at hn
    simp only [World.cell?, hn]
    have hx2 : s.data[i]? = some x := by simpa using hx
    have hi3 : i < s.size := hi2
    simp [bytesRow, Array.getElem?_append, hi3, u8, hx2]
    rw [(Array.getElem?_eq_some_iff.1 hx2).2]
  · intro w0 D H hs
    exact St.drop (A := [_]) (hs.drew.alloc _)
set_option maxRecDepth 10000 in
theorem St.c2b {w0 w : World} {D : List Nat} {H : List (Nat × Obj)} {a : Act} {K : Act → World → Prop} {Q : Exit → Act → World → Prop} {dst : Option Tmp} {t : TypeId} {pos : String} {aft : Array Edge} {gd : Option (Nat × Bool)}
    (hs : St w0 D H w) {x : Operand} {s : ByteArray} (hx : a.eval x = .string s) (hb : s.size ≤ 1048576)
    (h : ∀ A c w', Hid (Txt w' [] (.slice A s.size c) s.data.toList) → St w0 D H w' → K (a.put dst (.slice A s.size c)) w') : Oper.wp Try.prog ⟨dst, .convert 9 43 x, t, pos, aft, gd⟩ a w K Q := by
  obtain ⟨g, c, w', hr, hT, h2⟩ := c2b_run w s hb
  refine wp_of_run (v := .slice (some ⟨g, 0, none⟩) s.size c) (w' := w') ?_ (h _ _ _ (hid hT) (h2 _ _ _ hs))
  simp [execOp, hx, hr]
theorem str_bytes (s : ByteArray) : str s.data.toList = .string s := by
  cases s with
  | mk d => cases d; rfl
theorem run_build54s (w : World) (s : ByteArray) : (Instr.build 54 #[(0, .int .i64 3), (1, .string s)]).run Try.prog w = .ok (.agg (Tok.cells ⟨3, s.data.toList, 0⟩).toArray) w := by
  unfold Tok.cells
  simp only [str_bytes]
  go_simp
theorem run_ix95_0 (w : World) (a b : ByteArray) (k : IntKind) : (Instr.index 95 (.agg #[.string a, .string b]) (.int k ((0 : Nat) : Int))).run Try.prog w = .ok (.string a) w := by
  have h := run_part (P := Try.prog) (w := w) (elem := 9) (off := 0) (cs := #[.string a, .string b]) (v := .string a) (sc_of rfl) rfl
  simp [Instr.index, asIntOf, run_underlying Try.underlying95, run_sizeOf ar95.siz, h]
theorem run_ix95_1 (w : World) (a b : ByteArray) (k : IntKind) : (Instr.index 95 (.agg #[.string a, .string b]) (.int k ((1 : Nat) : Int))).run Try.prog w = .ok (.string b) w := by
  have h := run_part (P := Try.prog) (w := w) (elem := 9) (off := 1) (cs := #[.string a, .string b]) (v := .string b) (sc_of rfl) rfl
  simp [Instr.index, asIntOf, run_underlying Try.underlying95, run_sizeOf ar95.siz, h]
theorem ex_ix {P : Program} {ρ : Operand → Value} {w : World} {dst : Option Tmp} {t ty : TypeId} {pos : String} {aft : Array Edge} {g : Option (Nat × Bool)} {x y : Operand} {vx vy v : Value} (hx : ρ x = vx) (hy : ρ y = vy) (h : (Instr.index ty vx vy).run P w = .ok v w) :
    (execOp ρ ⟨dst, .index ty x y, t, pos, aft, g⟩).run P w = .ok (.value v) w := by simp [execOp, hx, hy, h]
theorem gd_ix {P : Program} {ops : Array Oper} {rest : List Oper} {w : World} {a : Act} {Q : Exit → Act → World → Prop} {dst : Option Tmp} {t ty : TypeId} {pos : String} {aft : Array Edge} {g : Option (Nat × Bool)} {x y : Operand} (h : wpList P ops Q (⟨dst, .index ty x y, t, pos, aft, g⟩ :: rest) a w) :
    wpList P ops Q (⟨dst, .index ty x y, t, pos, aft, g⟩ :: rest) a w := h
theorem gd_eq {P : Program} {ops : Array Oper} {rest : List Oper} {w : World} {a : Act} {Q : Exit → Act → World → Prop} {dst : Option Tmp} {t xt yt : TypeId} {pos : String} {aft : Array Edge} {g : Option (Nat × Bool)} {x y : Operand} (h : wpList P ops Q (⟨dst, .binOp .eql xt x y yt, t, pos, aft, g⟩ :: rest) a w) :
    wpList P ops Q (⟨dst, .binOp .eql xt x y yt, t, pos, aft, g⟩ :: rest) a w := h
theorem Sl.one_tok {w0 w : World} {D : List Nat} {H C : List (Nat × Obj)} {v : Value} {t : Tok} (hsl : Sl 54 3 v 1 (tcells [t]) C) (hs : St w0 D H w) (hC : ∀ p ∈ C, p ∈ H) : ∃ g c, v = .slice (some ⟨g, 0, none⟩) 1 c ∧ ∀ j u, t.cells[j]? = some u → w.cell? ⟨g, 0 + j, none⟩ = some u := by
  rcases hsl.2 with ⟨_, h0, _⟩ | ⟨g, cap, junk, rfl, rfl, h1, h2, h3⟩
  · cases h0
  · refine ⟨g, cap, rfl, fun j u hj => ?_⟩
    have hg := hs.has.known (g, row 54 (tcells [t] ++ junk)) (hC _ (by simp))
    have hl := (List.getElem?_eq_some_iff.1 hj).1
    rw [row_cell hg, Nat.zero_add]
    simp only [tcells, List.map_cons, List.map_nil, List.flatten_cons, List.flatten_nil, List.append_nil]
    rw [List.getElem?_append_left hl]; exact hj

set_option maxHeartbeats 2000000 in
set_option maxRecDepth 10000 in
theorem symbol_1 {w0 : World} {s : ByteArray} (hsz : s.size ≤ 1000000) (h1 : symB s s = true) :
    Calls Try.prog 26 #[.string s] w0 fun e w' => e = .returned (.tuple #[.string s, .bool true]) ∧ St w0 [] [] w' := by
  have hs := St.nothing w0
  have h1 := hid h1
  have hb2 := hid (barS_size s)
  go_enter Try.func26, Try.ntmps26
  go_wp2_with fail
  go_loopg [13] 1 (fun g iv wr => ∃ n : Nat, iv = .int .i64 n ∧ n < 1 ∧ g = 1 - n ∧ St w0 [] [] wr)
  case atStart => exact ⟨0, rfl, by decide, rfl, hs⟩
  case round =>
    clear hs
    obtain ⟨n, rfl, hn, rfl, hs⟩ := hrel
    obtain rfl : n = 0 := by omega
    have hr := h1.out
    have hxb : s.size ≤ 1048576 := by omega
    clear hn
    replace hr := hid (symB_true hr)
    go_upto_region 5 with (first
      | ((with_reducible refine gd_ix (ty := 95) ?_); refine wl_of rfl (wp_of_run (ex_ix (by first | exact ev rfl | rfl) (by first | exact ev rfl | rfl) (run_ix95_0 _ s (barS s) _)) ?_))
      | ((with_reducible refine gd_cv ?_); refine wl_of rfl (hs.c2b (s := s) (by first | exact ev rfl | rfl) hxb ?_); intro pA pc w hT hs)
      | (go_at_call 23; refine (read_ok hr.out (by have := hxb; exact this) hT.out).mono ?_; rintro e w ⟨vx, CX, rfl, hslx, hs'⟩; replace hs := hs.plus hs'; clear hs'; simp only [List.nil_append] at hs; replace hslx := hslx.out)
      | ((with_reducible refine gd_al ?_); refine wl_of rfl (hs.al (zc_of rfl) ?_); intro b7 w hb7 hs)
      | ((with_reducible refine gd_st (ty := 46) ?_); refine wl_of rfl (hs.sta 0 rfl rfl ag46 (vs := [.int .i64 0, .int .i64 0]) (by first | exact ev rfl | rfl) rfl (by simp [Value.oneCell']) (Nat.le_of_eq rfl) (splice_all rfl) ?_); intro w hs; rw [put_none]; simp only [List.set_cons_zero] at hs))
    have f1 : w.cell? ⟨b7, 0, none⟩ = some (.int .i64 0) := row_cell (hs.at 0 rfl) 0
    obtain ⟨gx, cx, rfl, hcx⟩ := hslx.one_tok hs (fun p hp => by simp [hp])
    replace hcx := hid hcx
    replace hs := hid hs
    go_wp2_with (first
      | ((with_reducible refine gd_ld (ty := 54) ?_); refine wl_on rfl (wp_lda (vs := Tok.cells ⟨3, s.data.toList, 0⟩) (by first | exact ev rfl | rfl) ag54 rfl hcx.out ?_))
      | ((with_reducible refine gd_bd ?_); refine wl_on rfl (wp_of_run (ex_build rfl (run_build54s _ s)) ?_))
      | ((with_reducible refine gd_eq (xt := 54) ?_); refine wl_on rfl (wp_of_run (ex_bin (by first | exact ev rfl | rfl) (by first | exact ev rfl | rfl) (guard_tok _ _ _ ⟨3, s.data.toList, 0⟩ ⟨3, s.data.toList, 0⟩ _) (eq_tok ⟨3, s.data.toList, 0⟩ ⟨3, s.data.toList, 0⟩ _)) ?_); rw [tokB_self]))
    go_ret2
    exact ⟨rfl, hs.out.void⟩
set_option maxHeartbeats 2000000 in
set_option maxRecDepth 10000 in
theorem symbol_2 {w0 : World} {s : ByteArray} (hsz : s.size ≤ 1000000) (h1 : symB s s = false) (h2 : symB (barS s) s = true) :
    Calls Try.prog 26 #[.string s] w0 fun e w' => e = .returned (.tuple #[.string (barS s), .bool true]) ∧ St w0 [] [] w' := by
  have hs := St.nothing w0
  have h1 := hid h1
  have h2 := hid h2
  have hb2 := hid (barS_size s)
  go_enter Try.func26, Try.ntmps26
  go_wp2_with fail
  go_loopg [13] 2 (fun g iv wr => ∃ n : Nat, iv = .int .i64 n ∧ n < 2 ∧ g = 2 - n ∧ St w0 [] [] wr)
  case atStart => exact ⟨0, rfl, by decide, rfl, hs⟩
  case round =>
    clear hs
    obtain ⟨n, rfl, hn, rfl, hs⟩ := hrel
    obtain rfl | rfl : n = 0 ∨ n = 1 := by omega
    · have hr := h1.out
      have hxb : s.size ≤ 1048576 := by omega
      clear hn
      rcases symB_false hr with ⟨k, hr⟩ | ⟨ts, hr, hn⟩ | ⟨t, hr, ht⟩
      · replace hr := hid hr
        go_upto_region 5 with (first
          | ((with_reducible refine gd_ix (ty := 95) ?_); refine wl_of rfl (wp_of_run (ex_ix (by first | exact ev rfl | rfl) (by first | exact ev rfl | rfl) (run_ix95_0 _ s (barS s) _)) ?_))
          | ((with_reducible refine gd_cv ?_); refine wl_of rfl (hs.c2b (s := s) (by first | exact ev rfl | rfl) hxb ?_); intro pA pc w hT hs)
          | (go_at_call 23; refine (read_bad hr.out (by have := hxb; exact this) hT.out).mono ?_; rintro e w ⟨rfl, hs'⟩; replace hs := hs.plus hs'; clear hs'; simp only [List.append_nil] at hs)
          | ((with_reducible refine gd_al ?_); refine wl_of rfl (hs.al (zc_of rfl) ?_); intro b7 w hb7 hs)
          | ((with_reducible refine gd_st (ty := 46) ?_); refine wl_of rfl (hs.sta 0 rfl rfl ag46 (vs := [.int .i64 10, .int .i64 k]) (by first | exact ev rfl | rfl) rfl (by simp [Value.oneCell']) (Nat.le_of_eq rfl) (splice_all rfl) ?_); intro w hs; rw [put_none]; simp only [List.set_cons_zero] at hs))
        have f1 : w.cell? ⟨b7, 0, none⟩ = some (.int .i64 10) := row_cell (hs.at 0 rfl) 0
        replace hs := hid hs
        go_wp2_with fail
        go_roundg (2 - 1)
        case measure => decide
        case rel => exact ⟨1, by first | rfl | go_num, by decide, rfl, hs.out.void⟩
      · have tsl := hid (readC_len hr)
        replace hr := hid hr
        go_upto_region 5 with (first
          | ((with_reducible refine gd_ix (ty := 95) ?_); refine wl_of rfl (wp_of_run (ex_ix (by first | exact ev rfl | rfl) (by first | exact ev rfl | rfl) (run_ix95_0 _ s (barS s) _)) ?_))
          | ((with_reducible refine gd_cv ?_); refine wl_of rfl (hs.c2b (s := s) (by first | exact ev rfl | rfl) hxb ?_); intro pA pc w hT hs)
          | (go_at_call 23; refine (read_ok hr.out (by have := hxb; exact this) hT.out).mono ?_; rintro e w ⟨vx, CX, rfl, hslx, hs'⟩; replace hs := hs.plus hs'; clear hs'; simp only [List.nil_append] at hs; replace hslx := hslx.out)
          | ((with_reducible refine gd_al ?_); refine wl_of rfl (hs.al (zc_of rfl) ?_); intro b7 w hb7 hs)
          | ((with_reducible refine gd_st (ty := 46) ?_); refine wl_of rfl (hs.sta 0 rfl rfl ag46 (vs := [.int .i64 0, .int .i64 0]) (by first | exact ev rfl | rfl) rfl (by simp [Value.oneCell']) (Nat.le_of_eq rfl) (splice_all rfl) ?_); intro w hs; rw [put_none]; simp only [List.set_cons_zero] at hs))
        have f1 : w.cell? ⟨b7, 0, none⟩ = some (.int .i64 0) := row_cell (hs.at 0 rfl) 0
        obtain ⟨pv, cv, rfl, -⟩ := id (hslx.tks hs (fun p hp => by simp [hp]))
        have qn : ((ts.length : Int) == 1) = false := by rw [beq_eq_false_iff_ne]; omega
        replace hslx := hid hslx
        replace hs := hid hs
        replace hn := hid hn
        go_wp2_with fail
        go_roundg (2 - 1)
        case measure => decide
        case rel => exact ⟨1, by first | rfl | go_num, by decide, rfl, hs.out.void⟩
      · replace hr := hid hr
        replace ht := hid ht
        go_upto_region 5 with (first
          | ((with_reducible refine gd_ix (ty := 95) ?_); refine wl_of rfl (wp_of_run (ex_ix (by first | exact ev rfl | rfl) (by first | exact ev rfl | rfl) (run_ix95_0 _ s (barS s) _)) ?_))
          | ((with_reducible refine gd_cv ?_); refine wl_of rfl (hs.c2b (s := s) (by first | exact ev rfl | rfl) hxb ?_); intro pA pc w hT hs)
          | (go_at_call 23; refine (read_ok hr.out (by have := hxb; exact this) hT.out).mono ?_; rintro e w ⟨vx, CX, rfl, hslx, hs'⟩; replace hs := hs.plus hs'; clear hs'; simp only [List.nil_append] at hs; replace hslx := hslx.out)
          | ((with_reducible refine gd_al ?_); refine wl_of rfl (hs.al (zc_of rfl) ?_); intro b7 w hb7 hs)
          | ((with_reducible refine gd_st (ty := 46) ?_); refine wl_of rfl (hs.sta 0 rfl rfl ag46 (vs := [.int .i64 0, .int .i64 0]) (by first | exact ev rfl | rfl) rfl (by simp [Value.oneCell']) (Nat.le_of_eq rfl) (splice_all rfl) ?_); intro w hs; rw [put_none]; simp only [List.set_cons_zero] at hs))
        have f1 : w.cell? ⟨b7, 0, none⟩ = some (.int .i64 0) := row_cell (hs.at 0 rfl) 0
        obtain ⟨gx, cx, rfl, hcx⟩ := hslx.one_tok hs (fun p hp => by simp [hp])
        replace hcx := hid hcx
        replace hs := hid hs
        go_wp2_with (first
          | ((with_reducible refine gd_ld (ty := 54) ?_); refine wl_on rfl (wp_lda (vs := Tok.cells t) (by first | exact ev rfl | rfl) ag54 rfl hcx.out ?_))
          | ((with_reducible refine gd_bd ?_); refine wl_on rfl (wp_of_run (ex_build rfl (run_build54s _ s)) ?_))
          | ((with_reducible refine gd_eq (xt := 54) ?_); refine wl_on rfl (wp_of_run (ex_bin (by first | exact ev rfl | rfl) (by first | exact ev rfl | rfl) (guard_tok _ _ _ t ⟨3, s.data.toList, 0⟩ _) (eq_tok t ⟨3, s.data.toList, 0⟩ _)) ?_); rw [ht.out]))
        go_roundg (2 - 1)
        case measure => decide
        case rel => exact ⟨1, by first | rfl | go_num, by decide, rfl, hs.out.void⟩
    · have hr := h2.out
      have hxb : (barS s).size ≤ 1048576 := by rw [hb2.out]; omega
      clear hn
      replace hr := hid (symB_true hr)
      go_upto_region 5 with (first
        | ((with_reducible refine gd_ix (ty := 95) ?_); refine wl_of rfl (wp_of_run (ex_ix (by first | exact ev rfl | rfl) (by first | exact ev rfl | rfl) (run_ix95_1 _ s (barS s) _)) ?_))
        | ((with_reducible refine gd_cv ?_); refine wl_of rfl (hs.c2b (s := (barS s)) (by first | exact ev rfl | rfl) hxb ?_); intro pA pc w hT hs)
        | (go_at_call 23; refine (read_ok hr.out (by have := hxb; exact this) hT.out).mono ?_; rintro e w ⟨vx, CX, rfl, hslx, hs'⟩; replace hs := hs.plus hs'; clear hs'; simp only [List.nil_append] at hs; replace hslx := hslx.out)
        | ((with_reducible refine gd_al ?_); refine wl_of rfl (hs.al (zc_of rfl) ?_); intro b7 w hb7 hs)
        | ((with_reducible refine gd_st (ty := 46) ?_); refine wl_of rfl (hs.sta 0 rfl rfl ag46 (vs := [.int .i64 0, .int .i64 0]) (by first | exact ev rfl | rfl) rfl (by simp [Value.oneCell']) (Nat.le_of_eq rfl) (splice_all rfl) ?_); intro w hs; rw [put_none]; simp only [List.set_cons_zero] at hs))
      have f1 : w.cell? ⟨b7, 0, none⟩ = some (.int .i64 0) := row_cell (hs.at 0 rfl) 0
      obtain ⟨gx, cx, rfl, hcx⟩ := hslx.one_tok hs (fun p hp => by simp [hp])
      replace hcx := hid hcx
      replace hs := hid hs
      go_wp2_with (first
        | ((with_reducible refine gd_ld (ty := 54) ?_); refine wl_on rfl (wp_lda (vs := Tok.cells ⟨3, s.data.toList, 0⟩) (by first | exact ev rfl | rfl) ag54 rfl hcx.out ?_))
        | ((with_reducible refine gd_bd ?_); refine wl_on rfl (wp_of_run (ex_build rfl (run_build54s _ s)) ?_))
        | ((with_reducible refine gd_eq (xt := 54) ?_); refine wl_on rfl (wp_of_run (ex_bin (by first | exact ev rfl | rfl) (by first | exact ev rfl | rfl) (guard_tok _ _ _ ⟨3, s.data.toList, 0⟩ ⟨3, s.data.toList, 0⟩ _) (eq_tok ⟨3, s.data.toList, 0⟩ ⟨3, s.data.toList, 0⟩ _)) ?_); rw [tokB_self]))
      go_ret2
      exact ⟨rfl, hs.out.void⟩
set_option maxHeartbeats 2000000 in
set_option maxRecDepth 10000 in
theorem symbol_0 {w0 : World} {s : ByteArray} (hsz : s.size ≤ 1000000) (h1 : symB s s = false) (h2 : symB (barS s) s = false) :
    Calls Try.prog 26 #[.string s] w0 fun e w' => e = .returned (.tuple #[.string ⟨#[]⟩, .bool false]) ∧ St w0 [] [] w' := by
  have hs := St.nothing w0
  have h1 := hid h1
  have h2 := hid h2
  have hb2 := hid (barS_size s)
  go_enter Try.func26, Try.ntmps26
  go_wp2_with fail
  go_loopg [13] 3 (fun g iv wr => ∃ n : Nat, iv = .int .i64 n ∧ n < 3 ∧ g = 3 - n ∧ St w0 [] [] wr)
  case atStart => exact ⟨0, rfl, by decide, rfl, hs⟩
  case round =>
    clear hs
    obtain ⟨n, rfl, hn, rfl, hs⟩ := hrel
    obtain rfl | rfl | rfl : n = 0 ∨ n = 1 ∨ n = 2 := by omega
    · have hr := h1.out
      have hxb : s.size ≤ 1048576 := by omega
      clear hn
      rcases symB_false hr with ⟨k, hr⟩ | ⟨ts, hr, hn⟩ | ⟨t, hr, ht⟩
      · replace hr := hid hr
        go_upto_region 5 with (first
          | ((with_reducible refine gd_ix (ty := 95) ?_); refine wl_of rfl (wp_of_run (ex_ix (by first | exact ev rfl | rfl) (by first | exact ev rfl | rfl) (run_ix95_0 _ s (barS s) _)) ?_))
          | ((with_reducible refine gd_cv ?_); refine wl_of rfl (hs.c2b (s := s) (by first | exact ev rfl | rfl) hxb ?_); intro pA pc w hT hs)
          | (go_at_call 23; refine (read_bad hr.out (by have := hxb; exact this) hT.out).mono ?_; rintro e w ⟨rfl, hs'⟩; replace hs := hs.plus hs'; clear hs'; simp only [List.append_nil] at hs)
          | ((with_reducible refine gd_al ?_); refine wl_of rfl (hs.al (zc_of rfl) ?_); intro b7 w hb7 hs)
          | ((with_reducible refine gd_st (ty := 46) ?_); refine wl_of rfl (hs.sta 0 rfl rfl ag46 (vs := [.int .i64 10, .int .i64 k]) (by first | exact ev rfl | rfl) rfl (by simp [Value.oneCell']) (Nat.le_of_eq rfl) (splice_all rfl) ?_); intro w hs; rw [put_none]; simp only [List.set_cons_zero] at hs))
        have f1 : w.cell? ⟨b7, 0, none⟩ = some (.int .i64 10) := row_cell (hs.at 0 rfl) 0
        replace hs := hid hs
        go_wp2_with fail
        go_roundg (3 - 1)
        case measure => decide
        case rel => exact ⟨1, by first | rfl | go_num, by decide, rfl, hs.out.void⟩
      · have tsl := hid (readC_len hr)
        replace hr := hid hr
        go_upto_region 5 with (first
          | ((with_reducible refine gd_ix (ty := 95) ?_); refine wl_of rfl (wp_of_run (ex_ix (by first | exact ev rfl | rfl) (by first | exact ev rfl | rfl) (run_ix95_0 _ s (barS s) _)) ?_))
          | ((with_reducible refine gd_cv ?_); refine wl_of rfl (hs.c2b (s := s) (by first | exact ev rfl | rfl) hxb ?_); intro pA pc w hT hs)
          | (go_at_call 23; refine (read_ok hr.out (by have := hxb; exact this) hT.out).mono ?_; rintro e w ⟨vx, CX, rfl, hslx, hs'⟩; replace hs := hs.plus hs'; clear hs'; simp only [List.nil_append] at hs; replace hslx := hslx.out)
          | ((with_reducible refine gd_al ?_); refine wl_of rfl (hs.al (zc_of rfl) ?_); intro b7 w hb7 hs)
          | ((with_reducible refine gd_st (ty := 46) ?_); refine wl_of rfl (hs.sta 0 rfl rfl ag46 (vs := [.int .i64 0, .int .i64 0]) (by first | exact ev rfl | rfl) rfl (by simp [Value.oneCell']) (Nat.le_of_eq rfl) (splice_all rfl) ?_); intro w hs; rw [put_none]; simp only [List.set_cons_zero] at hs))
        have f1 : w.cell? ⟨b7, 0, none⟩ = some (.int .i64 0) := row_cell (hs.at 0 rfl) 0
        obtain ⟨pv, cv, rfl, -⟩ := id (hslx.tks hs (fun p hp => by simp [hp]))
        have qn : ((ts.length : Int) == 1) = false := by rw [beq_eq_false_iff_ne]; omega
        replace hslx := hid hslx
        replace hs := hid hs
        replace hn := hid hn
        go_wp2_with fail
        go_roundg (3 - 1)
        case measure => decide
        case rel => exact ⟨1, by first | rfl | go_num, by decide, rfl, hs.out.void⟩
      · replace hr := hid hr
        replace ht := hid ht
        go_upto_region 5 with (first
          | ((with_reducible refine gd_ix (ty := 95) ?_); refine wl_of rfl (wp_of_run (ex_ix (by first | exact ev rfl | rfl) (by first | exact ev rfl | rfl) (run_ix95_0 _ s (barS s) _)) ?_))
          | ((with_reducible refine gd_cv ?_); refine wl_of rfl (hs.c2b (s := s) (by first | exact ev rfl | rfl) hxb ?_); intro pA pc w hT hs)
          | (go_at_call 23; refine (read_ok hr.out (by have := hxb; exact this) hT.out).mono ?_; rintro e w ⟨vx, CX, rfl, hslx, hs'⟩; replace hs := hs.plus hs'; clear hs'; simp only [List.nil_append] at hs; replace hslx := hslx.out)
          | ((with_reducible refine gd_al ?_); refine wl_of rfl (hs.al (zc_of rfl) ?_); intro b7 w hb7 hs)
          | ((with_reducible refine gd_st (ty := 46) ?_); refine wl_of rfl (hs.sta 0 rfl rfl ag46 (vs := [.int .i64 0, .int .i64 0]) (by first | exact ev rfl | rfl) rfl (by simp [Value.oneCell']) (Nat.le_of_eq rfl) (splice_all rfl) ?_); intro w hs; rw [put_none]; simp only [List.set_cons_zero] at hs))
        have f1 : w.cell? ⟨b7, 0, none⟩ = some (.int .i64 0) := row_cell (hs.at 0 rfl) 0
        obtain ⟨gx, cx, rfl, hcx⟩ := hslx.one_tok hs (fun p hp => by simp [hp])
        replace hcx := hid hcx
        replace hs := hid hs
        go_wp2_with (first
          | ((with_reducible refine gd_ld (ty := 54) ?_); refine wl_on rfl (wp_lda (vs := Tok.cells t) (by first | exact ev rfl | rfl) ag54 rfl hcx.out ?_))
          | ((with_reducible refine gd_bd ?_); refine wl_on rfl (wp_of_run (ex_build rfl (run_build54s _ s)) ?_))
          | ((with_reducible refine gd_eq (xt := 54) ?_); refine wl_on rfl (wp_of_run (ex_bin (by first | exact ev rfl | rfl) (by first | exact ev rfl | rfl) (guard_tok _ _ _ t ⟨3, s.data.toList, 0⟩ _) (eq_tok t ⟨3, s.data.toList, 0⟩ _)) ?_); rw [ht.out]))
        go_roundg (3 - 1)
        case measure => decide
        case rel => exact ⟨1, by first | rfl | go_num, by decide, rfl, hs.out.void⟩
    · have hr := h2.out
      have hxb : (barS s).size ≤ 1048576 := by rw [hb2.out]; omega
      clear hn
      rcases symB_false hr with ⟨k, hr⟩ | ⟨ts, hr, hn⟩ | ⟨t, hr, ht⟩
      · replace hr := hid hr
        go_upto_region 5 with (first
          | ((with_reducible refine gd_ix (ty := 95) ?_); refine wl_of rfl (wp_of_run (ex_ix (by first | exact ev rfl | rfl) (by first | exact ev rfl | rfl) (run_ix95_1 _ s (barS s) _)) ?_))
          | ((with_reducible refine gd_cv ?_); refine wl_of rfl (hs.c2b (s := (barS s)) (by first | exact ev rfl | rfl) hxb ?_); intro pA pc w hT hs)
          | (go_at_call 23; refine (read_bad hr.out (by have := hxb; exact this) hT.out).mono ?_; rintro e w ⟨rfl, hs'⟩; replace hs := hs.plus hs'; clear hs'; simp only [List.append_nil] at hs)
          | ((with_reducible refine gd_al ?_); refine wl_of rfl (hs.al (zc_of rfl) ?_); intro b7 w hb7 hs)
          | ((with_reducible refine gd_st (ty := 46) ?_); refine wl_of rfl (hs.sta 0 rfl rfl ag46 (vs := [.int .i64 10, .int .i64 k]) (by first | exact ev rfl | rfl) rfl (by simp [Value.oneCell']) (Nat.le_of_eq rfl) (splice_all rfl) ?_); intro w hs; rw [put_none]; simp only [List.set_cons_zero] at hs))
        have f1 : w.cell? ⟨b7, 0, none⟩ = some (.int .i64 10) := row_cell (hs.at 0 rfl) 0
        replace hs := hid hs
        go_wp2_with fail
        go_roundg (3 - 2)
        case measure => decide
        case rel => exact ⟨2, by first | rfl | go_num, by decide, rfl, hs.out.void⟩
      · have tsl := hid (readC_len hr)
        replace hr := hid hr
        go_upto_region 5 with (first
          | ((with_reducible refine gd_ix (ty := 95) ?_); refine wl_of rfl (wp_of_run (ex_ix (by first | exact ev rfl | rfl) (by first | exact ev rfl | rfl) (run_ix95_1 _ s (barS s) _)) ?_))
          | ((with_reducible refine gd_cv ?_); refine wl_of rfl (hs.c2b (s := (barS s)) (by first | exact ev rfl | rfl) hxb ?_); intro pA pc w hT hs)
          | (go_at_call 23; refine (read_ok hr.out (by have := hxb; exact this) hT.out).mono ?_; rintro e w ⟨vx, CX, rfl, hslx, hs'⟩; replace hs := hs.plus hs'; clear hs'; simp only [List.nil_append] at hs; replace hslx := hslx.out)
          | ((with_reducible refine gd_al ?_); refine wl_of rfl (hs.al (zc_of rfl) ?_); intro b7 w hb7 hs)
          | ((with_reducible refine gd_st (ty := 46) ?_); refine wl_of rfl (hs.sta 0 rfl rfl ag46 (vs := [.int .i64 0, .int .i64 0]) (by first | exact ev rfl | rfl) rfl (by simp [Value.oneCell']) (Nat.le_of_eq rfl) (splice_all rfl) ?_); intro w hs; rw [put_none]; simp only [List.set_cons_zero] at hs))
        have f1 : w.cell? ⟨b7, 0, none⟩ = some (.int .i64 0) := row_cell (hs.at 0 rfl) 0
        obtain ⟨pv, cv, rfl, -⟩ := id (hslx.tks hs (fun p hp => by simp [hp]))
        have qn : ((ts.length : Int) == 1) = false := by rw [beq_eq_false_iff_ne]; omega
        replace hslx := hid hslx
        replace hs := hid hs
        replace hn := hid hn
        go_wp2_with fail
        go_roundg (3 - 2)
        case measure => decide
        case rel => exact ⟨2, by first | rfl | go_num, by decide, rfl, hs.out.void⟩
      · replace hr := hid hr
        replace ht := hid ht
        go_upto_region 5 with (first
          | ((with_reducible refine gd_ix (ty := 95) ?_); refine wl_of rfl (wp_of_run (ex_ix (by first | exact ev rfl | rfl) (by first | exact ev rfl | rfl) (run_ix95_1 _ s (barS s) _)) ?_))
          | ((with_reducible refine gd_cv ?_); refine wl_of rfl (hs.c2b (s := (barS s)) (by first | exact ev rfl | rfl) hxb ?_); intro pA pc w hT hs)
          | (go_at_call 23; refine (read_ok hr.out (by have := hxb; exact this) hT.out).mono ?_; rintro e w ⟨vx, CX, rfl, hslx, hs'⟩; replace hs := hs.plus hs'; clear hs'; simp only [List.nil_append] at hs; replace hslx := hslx.out)
          | ((with_reducible refine gd_al ?_); refine wl_of rfl (hs.al (zc_of rfl) ?_); intro b7 w hb7 hs)
          | ((with_reducible refine gd_st (ty := 46) ?_); refine wl_of rfl (hs.sta 0 rfl rfl ag46 (vs := [.int .i64 0, .int .i64 0]) (by first | exact ev rfl | rfl) rfl (by simp [Value.oneCell']) (Nat.le_of_eq rfl) (splice_all rfl) ?_); intro w hs; rw [put_none]; simp only [List.set_cons_zero] at hs))
        have f1 : w.cell? ⟨b7, 0, none⟩ = some (.int .i64 0) := row_cell (hs.at 0 rfl) 0
        obtain ⟨gx, cx, rfl, hcx⟩ := hslx.one_tok hs (fun p hp => by simp [hp])
        replace hcx := hid hcx
        replace hs := hid hs
        go_wp2_with (first
          | ((with_reducible refine gd_ld (ty := 54) ?_); refine wl_on rfl (wp_lda (vs := Tok.cells t) (by first | exact ev rfl | rfl) ag54 rfl hcx.out ?_))
          | ((with_reducible refine gd_bd ?_); refine wl_on rfl (wp_of_run (ex_build rfl (run_build54s _ s)) ?_))
          | ((with_reducible refine gd_eq (xt := 54) ?_); refine wl_on rfl (wp_of_run (ex_bin (by first | exact ev rfl | rfl) (by first | exact ev rfl | rfl) (guard_tok _ _ _ t ⟨3, s.data.toList, 0⟩ _) (eq_tok t ⟨3, s.data.toList, 0⟩ _)) ?_); rw [ht.out]))
        go_roundg (3 - 2)
        case measure => decide
        case rel => exact ⟨2, by first | rfl | go_num, by decide, rfl, hs.out.void⟩
    · replace hs := hid hs
      clear hn
      go_wp2_with fail
      go_ret2
      exact ⟨rfl, hs.out⟩
end Go.Proofs.Ytclingkhdmhhoaa

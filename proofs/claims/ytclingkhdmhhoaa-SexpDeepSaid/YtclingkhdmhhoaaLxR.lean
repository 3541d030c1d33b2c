/- The walk of lex.Read. No condition. -/
import Derived.Test.YtclingkhdmhhoaaLxH
namespace Go.Proofs.Ytclingkhdmhhoaa
open Go.RowKit
set_option linter.unusedSimpArgs false
set_option linter.unusedVariables false

/-- a copy of a text -/
theorem clone_txt {w0 : World} {v : Value} {l : List UInt8} (hT : Txt w0 [] v l) (hl : l.length ≤ 1073741824) :
    Calls Try.prog 44 #[v] w0 fun e w' => ∃ A c, e = .returned (.slice A l.length c) ∧ (∀ D : List Nat, (∀ b ∈ D, b < w0.heap.size) → Txt w' D (.slice A l.length c) l) ∧ Below w0.heap.size w0 w' := by
  obtain ⟨A, c, rfl, h2, h3, h4⟩ := hT
  cases A with
  | none =>
    have hl0 : l = [] := by
      rcases h4 with h | ⟨b, o, h, _⟩
      · exact h
      · cases h
    subst hl0
    refine (Try.bytes_Clone_nil _ _ _).mono ?_
    rintro e w' ⟨rfl, rfl⟩
    exact ⟨none, 0, rfl, fun D _ => ⟨none, 0, rfl, Nat.le_refl _, by simp [maxLen], .inl rfl⟩, Below.refl _ _⟩
  | some ad =>
    refine (Try.bytes_Clone_at ad l.length c (l.map fun x => (x.toNat : Int)) w0 (by simp) (by omega) (fun i hi => ?_)).mono ?_
    · rcases h4 with h | ⟨b, o, h, hb, hd, hc⟩
      · subst h; simp at hi
      · cases h
        rw [add_none, hc i l[i] (by simp [hi])]
        simp [u8, hi]
    · rintro e w' ⟨v', rfl, ⟨hxl, hv⟩, hne, hb⟩
      rcases hv with ⟨rfl, _⟩ | ⟨g, cap, cur, rfl, hg, hh, hn, hcap, hsz, hxs⟩
      · exact absurd rfl hne
      · refine ⟨some ⟨g, 0, none⟩, cap, rfl, fun D hD => ⟨_, _, rfl, hn, hcap, .inr ⟨g, 0, rfl, (Array.getElem?_eq_some_iff.1 hh).1, fun hm => by have := hD g hm; omega, fun i x hx => ?_⟩⟩, hb⟩
        have hi : i < l.length := (List.getElem?_eq_some_iff.1 hx).1
        have e1 : ((l.map fun x => (x.toNat : Int)).map (Value.int .u8))[i]? = some (u8 x) := by simp [hx, u8]
        rw [← hxs, List.getElem?_take] at e1
        rw [if_pos (by omega)] at e1
        rw [Nat.zero_add]
        simp [World.cell?, hh, ← e1]

/-- what is read from a token's place on -/
def readD (l : List UInt8) (p : Nat) : Except Nat (List Tok) :=
  if l.length ≤ p then .ok [] else match tokL (l.drop p) with
  | .error e => .error (p + e)
  | .ok (kd, t, m) => preT [⟨kd, t, (p : Int)⟩] (readC (l.drop (p + m)) (p + m))
theorem readD_of {l : List UInt8} {a : Nat} (ha : a ≤ l.length) : readC (l.drop a) a = readD l (a + skipN false (l.drop a)) := by
  have hle := skipN_le false (l.drop a)
  rw [List.length_drop] at hle
  unfold readD
  by_cases h : (l.drop a).length ≤ skipN false (l.drop a)
  · rw [readC_end h, if_pos (by rw [List.length_drop] at h; omega)]
  · have h' : skipN false (l.drop a) < (l.drop a).length := by omega
    rw [if_neg (by rw [List.length_drop] at h; omega)]
    rw [← List.drop_drop]
    cases ht : tokL ((l.drop a).drop (skipN false (l.drop a))) with
    | error e => rw [readC_bad h' ht]
    | ok x =>
      obtain ⟨kd, t, m⟩ := x
      rw [readC_tok h' ht, List.drop_drop]
      dsimp only
      rw [Nat.add_assoc a]

def ReadPost (w0 : World) (r : Except Nat (List Tok)) (e : Ending) (w' : World) : Prop := match r with
  | .ok ts => ∃ ov CO, e = .returned (.tuple #[ov, .agg #[.int .i64 0, .int .i64 0]]) ∧ Sl 54 3 ov ts.length (tcells ts) CO ∧ St w0 [] CO w'
  | .error k => e = .returned (.tuple #[.slice none 0 0, .agg #[.int .i64 10, .int .i64 k]]) ∧ St w0 [] [] w'

theorem results23 {w : World} {b : Nat} {ov : Value} {k a : Int} (hb : w.heap[b]? = some (row 46 [.int .i64 k, .int .i64 a])) {tmps : Array Value} (t2 : tmps.getD 2 undef = ov) (t3 : tmps.getD 3 undef = .pointer (some ⟨b, 0, none⟩)) :
    (results Try.f23 tmps).run Try.prog w = .ok (.tuple #[ov, .agg #[.int .i64 k, .int .i64 a]]) w := by
  have l3 := run_ld_row (P := Try.prog) ag46 hb (off := 0) (by simp)
  simp only [cut, List.drop_zero, List.take_succ_cons, List.take_zero] at l3
  rw [Array.getD_eq_getD_getElem?] at t2 t3
  simp [results, Try.f23, t2, t3, asAddr, Sem.run_bind, l3]
theorem run_build91 (w : World) (A : Option Addr) (n c : Nat) : (Instr.build 91 #[(0, .slice A n c), (3, .int .i64 (-1))]).run Try.prog w = .ok (.agg #[.slice A n c, .int .i64 0, .slice none 0 0, .int .i64 (-1)]) w := by go_simp
theorem run_build46 (w : World) (k a : Int) : (Instr.build 46 #[(0, .int .i64 k), (1, .int .i64 a)]).run Try.prog w = .ok (.agg #[.int .i64 k, .int .i64 a]) w := by go_simp
theorem run_build46z (w : World) : (Instr.build 46 #[]).run Try.prog w = .ok (.agg #[.int .i64 0, .int .i64 0]) w := by go_simp

theorem St.void {w0 w : World} {D : List Nat} {H : List (Nat × Obj)} (h : St w0 D H w) : St w0 D [] w := St.drop (A := H) (B := []) (by rw [List.append_nil]; exact h)
theorem skip_e {w0 : World} {s at_ : Nat} {l : List UInt8} {A : Option Addr} {c : Nat} {ov bad : Value} (hl : l.length ≤ 1048576) (hat : at_ ≤ l.length) (h : w0.heap[s]? = some (row 91 [.slice A l.length c, .int .i64 at_, ov, bad]))
    (hT : Txt w0 [s] (.slice A l.length c) l) :
    Calls Try.prog 45 #[.pointer (some ⟨s, 0, none⟩)] w0 fun e w' => e = .returned (.tuple #[]) ∧ ∃ p : Nat, Hid (p = at_ + skipN false (l.drop at_)) ∧ p ≤ l.length ∧ St w0 [s] [(s, row 91 [.slice A l.length c, .int .i64 p, ov, bad])] w' :=
  (skip_c h hT hat (by omega)).mono fun e w' ⟨he, hs⟩ => ⟨he, _, hid rfl, by have := skipN_le false (l.drop at_); rw [List.length_drop] at this; omega, hs⟩
set_option maxHeartbeats 2000000 in
set_option maxRecDepth 4000 in
theorem read_c {w0 : World} {v : Value} {l : List UInt8} (hT : Txt w0 [] v l) (hl : l.length ≤ 1048576) : Calls Try.prog 23 #[v] w0 (ReadPost w0 (readC l 0)) := by
  have hs := St.nothing w0
  have hcl := fun w h => clone_txt (w0 := w) (v := v) (l := l) h (by omega)
  replace hcl := hid hcl
  replace hT := hid hT
  generalize hR : readC l 0 = R
  replace hR := hid hR
  go_enter Try.func23, Try.ntmps23
  go_wp2_with (first
    | ((with_reducible refine gd_ld ?_); first | refine wl_of rfl (hs.ld 0 rfl rfl (sc_of rfl) rfl ?_))
    | ((with_reducible refine gd_al ?_); refine wl_of rfl (hs.al (zc_of rfl) ?_); intro rb w hrb hs)
    | (go_at_call 44; refine (hcl.out _ ((hT.out.via hs).start (by simp))).mono ?_; rintro e w1 ⟨A, c, rfl, hT2, hb⟩; replace hT2 := hid (hT2 [rb] (fun b hb2 => by rw [List.mem_singleton.1 hb2]; exact hs.has.lt (p := (rb, row 46 [.int .i64 0, .int .i64 0])) (by simp))); have hs0 := hid (hs.above hb); clear hs hb; have hs := St.start hs0.out.has)
    | ((with_reducible refine gd_bd ?_); refine wl_of rfl (wp_of_run (ex_build rfl (run_build91 _ _ _ _)) ?_))
    | ((with_reducible refine gd_bx ?_); refine wl_of rfl (hs.bx rfl (l := [.slice A l.length c, .int .i64 ((0 : Nat) : Int), .slice none 0 0, .int .i64 (-1)]) rfl ?_); intro sb w hsb hs)
    | (go_at_call 45; refine (skip_e (at_ := 0) hl (Nat.zero_le _) (hs.at 0 rfl) (txt1 hT2.out hs (by simp))).mono ?_; rintro e w ⟨rfl, p, hp, hpl, hs'⟩; have hs2 := St.callL (H := [(sb, _)]) hs hs'; clear hs' hs; have hs := hs2; clear hs2))
  go_loopg [] (l.length + 1 - p) (fun g wr => ∃ (p : Nat) (out : List Tok) (ov : Value) (CO : List (Nat × Obj)), g = l.length + 1 - p ∧ p ≤ l.length ∧ out.length ≤ p ∧ Hid (preT out (readD l p) = R) ∧ Hid (Sl 54 3 ov out.length (tcells out) CO) ∧
    St w1 [rb] ((sb, row 91 [.slice A l.length c, .int .i64 p, ov, .int .i64 (-1)]) :: CO ++ [(rb, row 46 [.int .i64 0, .int .i64 0])]) wr)
  case atStart => exact ⟨p, [], .slice none 0 0, [], rfl, hpl, Nat.zero_le _, hid (by rw [preT_nil, hp.out, ← readD_of (Nat.zero_le _)]; exact hR.out), hid (Sl.nil 54 3), hs⟩
  case round =>
    clear hs hp
    obtain ⟨p, out, ov, CO, rfl, hpl, hop, hR2, hsl, hs⟩ := hrel
    have c0 := row_cell (hs.at 0 rfl) 0
    have c1 := row_cell (hs.at 0 rfl) 1
    simp only [List.getElem?_cons_zero, List.getElem?_cons_succ] at c0 c1
    have hsq := hid hs
    clear hs
    by_cases hlt : p < l.length
    · have q1 : decide (p < l.length) = true := by simpa using hlt
      go_wp2_with fail
      go_quiet (fail)
      rename_i nq
      have hs := hsq.out.drewN nq
      clear c0 c1 q1
      have hrd : ∀ w, St w1 [rb] ((sb, row 91 [.slice A l.length c, .int .i64 p, ov, .int .i64 (-1)]) :: CO ++ [(rb, row 46 [.int .i64 0, .int .i64 0])]) w → Ready w sb l A c p ov (-1) out CO := fun w hs =>
        ⟨hs.has.left, (hT2.out.via hs).start (fun b hb => by
          simp only [keys, List.cons_append, List.map_cons, List.map_append, List.mem_cons, List.mem_append] at hb ⊢
          rcases hb with h | h
          · exact .inl h
          · exact .inr (.inl h)), hsl.out, hlt, hl, by omega⟩
      replace hrd := hid hrd
      have hRD : readD l p = match tokL (l.drop p) with
        | .error e => .error (p + e)
        | .ok (kd, t, m) => preT [⟨kd, t, (p : Int)⟩] (readC (l.drop (p + m)) (p + m)) := by unfold readD; rw [if_neg (by omega)]
      have hbd := tokL_bd (l := l.drop p)
      have hnx := fun w h => next_c (w0 := w) (s := sb) (p := p) (c := c) (l := l) (A := A) (ov := ov) (bad := -1) (out := out) (CO := CO) h
      generalize tokL (l.drop p) = T at hRD hbd hnx
      replace hnx := hid hnx
      cases T with
      | error k =>
        have hRe : R = .error (p + k) := by rw [← hR2.out, hRD]; rfl
        subst hRe
        have q0 : (0 : Int) ≤ (p : Int) + (k : Int) := by omega
        clear hRD hbd hR2 hR
        go_wp2_with (first
          | ((with_reducible refine gd_ld ?_); first | refine wl_of rfl (hs.ld 0 rfl rfl (sc_of rfl) rfl ?_))
          | (go_at_call 46; refine (hnx.out _ (hrd.out _ hs)).mono ?_; rintro e w hpost; obtain ⟨rfl, hpost⟩ := hpost.to; obtain ⟨_, av, hs'⟩ := hpost; have hs2 : St w1 _ ((sb, row 91 [.slice A l.length c, av, ov, .int .i64 ((p + k : Nat) : Int)]) :: CO ++ [(rb, row 46 [.int .i64 0, .int .i64 0])]) w := St.callL hs hs'; clear hs' hs; have hs := hs2; clear hs2))
        have hs := hs.drew
        have hrb := hs.has.known (rb, row 46 [.int .i64 0, .int .i64 0]) (by simp)
        have hs1 := hs.set (row 46 [.int .i64 10, .int .i64 ((p + k : Nat) : Int)])
        refine wp_region_phases [6] (wsOf [w.drew, setBlk w.drew rb (row 46 [.int .i64 10, .int .i64 ((p + k : Nat) : Int)])]) follows (by kernel_rfl) (by kernel_rfl) rfl ?_
        refine LinP.pure rfl rfl (ex_move (ev rfl)) (pu rfl (by simp only [List.set_cons_succ, List.set_cons_zero]; rfl)) ?_
        refine LinP.pure rfl rfl (ex_nilCheck (ev rfl)) (pu rfl (by simp only [List.set_cons_succ, List.set_cons_zero]; rfl)) ?_
        refine LinP.pure rfl rfl (ex_fieldAddr fa91_3 (ev rfl)) (pu rfl (by simp only [List.set_cons_succ, List.set_cons_zero]; rfl)) ?_
        refine LinP.rd 0 rfl rfl (by kernel_rfl) (by kernel_rfl) (ex_ld_s (ev rfl) sc3 (row_cell (hs.at 0 rfl) 3)) (pu rfl (by simp only [List.set_cons_succ, List.set_cons_zero]; rfl)) ?_
        refine LinP.pure rfl rfl (fun w => ex_build rfl (run_build46 w 10 ((p + k : Nat) : Int))) (pu rfl (by simp only [List.set_cons_succ, List.set_cons_zero]; rfl)) ?_
        refine LinP.pure rfl rfl (ex_assign rfl) (pu rfl (by simp only [List.set_cons_succ, List.set_cons_zero]; rfl)) ?_
        refine LinP.store 0 rfl rfl (by kernel_rfl) (by kernel_rfl) (ex_st_a (off := 0) (ev rfl) (ev rfl) ag46 rfl hrb (Nat.le_of_ble_eq_true rfl) (by simp [Value.oneCell']) rfl) (pu0 rfl) ?_
        refine LinP.done ?_
        go_wp2_with fail
        refine bodyPost_ret (results23 (b := rb) (ov := .slice none 0 0) (k := 10) (a := ((p + k : Nat) : Int)) (hs1.has.known (rb, row 46 [.int .i64 10, .int .i64 ((p + k : Nat) : Int)]) (List.mem_append.2 (.inr (List.mem_singleton.2 rfl)))) rfl rfl) rfl ?_
        exact ⟨rfl, hs0.out.trans hs1.void⟩
      | ok x =>
        obtain ⟨kd, t, m⟩ := x
        have hm := hbd.1 kd t m rfl
        rw [List.length_drop] at hm
        obtain ⟨hm1, hm2⟩ := hm
        have hpm : p + m ≤ l.length := by omega
        have hpm' := hid hpm
        have hRn : preT (out ++ [⟨kd, t, (p : Int)⟩]) (readC (l.drop (p + m)) (p + m)) = R := by rw [← preT_preT, ← hR2.out, hRD]
        replace hRn := hid hRn
        clear hRD hbd hR2 hR
        go_wp2_with (first
          | ((with_reducible refine gd_ld ?_); first | refine wl_of rfl (hs.ld 0 rfl rfl (sc_of rfl) rfl ?_))
          | (go_at_call 46; refine (hnx.out _ (hrd.out _ hs)).mono ?_; rintro e w hpost; obtain ⟨rfl, hpost⟩ := hpost.to; obtain ⟨_, ov', CO', hsl', hs'⟩ := hpost; replace hsl' := hid hsl'; have hs2 : St w1 _ ((sb, row 91 [.slice A l.length c, .int .i64 ((p + m : Nat) : Int), ov', .int .i64 (-1)]) :: CO' ++ [(rb, row 46 [.int .i64 0, .int .i64 0])]) w := St.callL hs hs'; clear hs' hs; have hs := hs2; clear hs2)
          | (go_at_call 45; refine (skip_e (at_ := p + m) hl hpm'.out (hs.at 0 rfl) (txt1 hT2.out hs (by simp))).mono ?_; rintro e w ⟨rfl, p2, hp2, hpl2, hs'⟩; have hs2 : St w1 _ ((sb, row 91 [.slice A l.length c, .int .i64 p2, ov', .int .i64 (-1)]) :: CO' ++ [(rb, row 46 [.int .i64 0, .int .i64 0])]) w := St.callL (H := [(sb, _)]) (B := CO' ++ [(rb, row 46 [.int .i64 0, .int .i64 0])]) hs hs'; clear hs' hs; have hs := hs2; clear hs2))
        have hp3 := hp2.out
        go_roundg (l.length + 1 - p2)
        case measure => omega
        case rel => exact ⟨p2, out ++ [⟨kd, t, (p : Int)⟩], ov', CO', rfl, hpl2, by simp; omega, hid (by rw [hp3, ← readD_of (by omega)]; exact hRn.out), by simpa using hsl', hs⟩
    · have q1 : decide (p < l.length) = false := by simpa using hlt
      go_wp2_with fail
      go_quiet (fail)
      rename_i nq
      have hs := hsq.out.drewN nq
      clear c0 c1 q1
      have hRe : R = .ok out := by rw [← hR2.out]; unfold readD; rw [if_pos (by omega)]; simp [preT]
      subst hRe
      go_wp2_with (first
        | ((with_reducible refine gd_ld ?_); first | refine wl_of rfl (hs.ld 0 rfl rfl (sc_of rfl) rfl ?_))
        | ((with_reducible refine gd_bd ?_); refine wl_of rfl (wp_of_run (ex_build rfl (run_build46z _)) ?_))
        | ((with_reducible refine gd_st ?_); refine wl_of rfl (St.stam hs rfl ag46 (vs := [.int .i64 0, .int .i64 0]) rfl rfl (by simp [Value.oneCell']) (Nat.le_of_ble_eq_true rfl) ?_); intro w hs; rw [put_none]))
      refine bodyPost_ret (results23 (b := rb) (ov := ov) (k := 0) (a := 0) (hs.has.known (rb, row 46 [.int .i64 0, .int .i64 0]) (List.mem_append.2 (.inr (List.mem_singleton.2 rfl)))) rfl rfl) rfl ?_
      exact ⟨ov, CO, rfl, hsl.out, hs0.out.trans (St.drop (A := [_]) (St.keep (A := (sb, _) :: CO) hs))⟩
end Go.Proofs.Ytclingkhdmhhoaa

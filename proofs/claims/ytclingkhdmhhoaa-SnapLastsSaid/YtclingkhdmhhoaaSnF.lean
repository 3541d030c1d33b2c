/- The walk of snap.Slot. No condition. -/
import Derived.Test.YtclingkhdmhhoaaSnE
namespace Go.Proofs.Ytclingkhdmhhoaa
open Go.RowKit
set_option linter.unusedSimpArgs false
set_option linter.unusedVariables false

theorem cells_u8r {w : World} {b : Nat} {T : TypeId} {l : List UInt8} (h : w.heap[b]? = some (row T (sv l))) : ∀ j u, l[j]? = some u → w.cell? ((⟨b, 0, none⟩ : Addr).add j) = some (u8 u) := fun j u hu => cells_at h j (u8 u) (by simp [sv, hu])
def SlotPost (w0 : World) (C : List (Nat × Obj)) (r : Option (Nat × Int × List UInt8)) (e : Ending) (w' : World) : Prop := match r with
  | none => e = .returned (.tuple #[.int .i64 0, .int .u32 0, .slice none 0 0, .bool false]) ∧ St w0 (keys C) C w'
  | some (ep, f, b) => ∃ v CB, e = .returned (.tuple #[.int .i64 ep, .int .u32 f, v, .bool true]) ∧ Byt v b CB ∧ St w0 (keys C) (CB ++ C) w'
theorem results79 {w : World} {v4 v5 v6 v7 : Value} {tmps : Array Value} (t4 : tmps.getD 4 undef = v4) (t5 : tmps.getD 5 undef = v5) (t6 : tmps.getD 6 undef = v6) (t7 : tmps.getD 7 undef = v7) :
    (results Try.f79 tmps).run Try.prog w = .ok (.tuple #[v4, v5, v6, v7]) w := by
  rw [Array.getD_eq_getD_getElem?] at t4 t5 t6 t7
  simp [results, Try.f79, t4, t5, t6, t7]
theorem run_cv_u64_i64 (n : Nat) (h : n ≤ 1073741824) (w : World) : (convert 121 3 (.int .u64 n)).run Try.prog w = .ok (.int .i64 n) w := by
  have e : IntKind.i64.wrap (n : Int) = n := by rw [IntKind.wrap_i64]; omega
  go_simp
theorem run_cv_u64_u32 (f : Int) (h0 : 0 ≤ f) (h1 : f < 4294967296) (w : World) : (convert 121 63 (.int .u64 f)).run Try.prog w = .ok (.int .u32 f) w := by
  have e : IntKind.u32.wrap f = f := by rw [IntKind.wrap_u32]; omega
  go_simp
theorem cf92 (args : Array Value) (w : World) : (callFunc 92 args).run Try.prog w = .ok (.enter 92 args) w := by go_simp
theorem cf55 (args : Array Value) (w : World) : (callFunc 55 args).run Try.prog w = .ok (.enter 55 args) w := by go_simp
/-- b[:n:n] -/
theorem run_sl3 {w : World} {v : Value} {m n : Nat} {l : List UInt8} {CB : List (Nat × Obj)} (hsl : Sl 5 1 v m (sv l) CB) (hn : n ≤ m) (hm : l.length = m) (hz : n = 0 → m = 0) (h63 : m ≤ 1048576) (k k' : IntKind) :
    ∃ v', (Instr.sliceAt 43 v none (some (.int k n)) (some (.int k' n))).run Try.prog w = .ok v' w ∧ Byt v' (l.take n) CB := by
  have hl : (l.take n).length = n := by rw [List.length_take]; omega
  rcases hsl.2 with ⟨rfl, h0, rfl⟩ | ⟨g, cap, junk, rfl, rfl, hj, hc, hmc⟩
  · have hn0 : n = 0 := by omega
    subst hn0
    refine ⟨.slice none 0 0, ?_, none, 0, by rw [hl], by omega, by simp [maxLen], .inl (List.eq_nil_of_length_eq_zero hl)⟩
    simp [Instr.sliceAt, Instr.slice, Instr.sliceBounds, Instr.sliceBound, asIntOf, run_underlying Try.underlying43, run_sizeOf st43.siz]
  · have b1 : n ≤ cap := by omega
    by_cases hn0 : n = 0
    · have hm0 := hz hn0
      subst hn0
      refine ⟨.slice (some ⟨g, 0, none⟩) 0 0, ?_, some ⟨g, 0, none⟩, 0, by rw [hl], by omega, by simp [maxLen], .inl (List.eq_nil_of_length_eq_zero hl)⟩
      simp [Instr.sliceAt, Instr.slice, Instr.sliceBounds, Instr.sliceBound, asIntOf, run_underlying Try.underlying43, run_sizeOf st43.siz]
    · refine ⟨.slice (some ⟨g, 0, none⟩) n n, ?_, some ⟨g, 0, none⟩, n, by rw [hl], by omega, by unfold maxLen; omega, .inr ⟨g, sv (l.drop n) ++ junk, rfl, ?_⟩⟩
      · simp [Instr.sliceAt, Instr.slice, Instr.sliceBounds, Instr.sliceBound, asIntOf, run_underlying Try.underlying43, run_sizeOf st43.siz, b1, hn0, add_none]
      · have e : sv (l.take n) ++ (sv (l.drop n) ++ junk) = sv l ++ junk := by
          rw [← List.append_assoc]; congr 1
          simp only [sv, ← List.map_append, List.take_append_drop]
        rw [e]; simp
theorem ex_sl3 {P : Program} {ρ : Operand → Value} {w : World} {dst : Option Tmp} {t : TypeId} {pos : String} {aft : Array Edge} {g : Option (Nat × Bool)} {x hi mx : Operand} {v vh vm v' : Value} {ty : TypeId} (hx : ρ x = v) (hh : ρ hi = vh) (hm : ρ mx = vm) (h : (Instr.sliceAt ty v none (some vh) (some vm)).run P w = .ok v' w) :
    (execOp ρ ⟨dst, .slice ty x none (some hi) (some mx), t, pos, aft, g⟩).run P w = .ok (.value v') w := by simp [execOp, hx, hh, hm, h]
theorem secs_snoc {L : List (List UInt8)} {base i : Nat} {s : List UInt8} (h : L[base + 1 + i]? = some s) : ((L.drop (base + 1)).take (i + 1)).flatten = ((L.drop (base + 1)).take i).flatten ++ s := by
  have e : (L.drop (base + 1))[i]? = some s := by rw [List.getElem?_drop]; exact h
  rw [List.take_add_one, e]; simp
theorem secs_len {L : List (List UInt8)} (hS : Sec L) {base i : Nat} (h : base + 1 + i ≤ L.length) : ((L.drop (base + 1)).take i).flatten.length = i * 64 := by
  have hk : ∀ x ∈ (L.drop (base + 1)).take i, x.length = 64 := fun x hx => hS x (List.mem_of_mem_drop (List.mem_of_mem_take hx))
  have : ∀ (M : List (List UInt8)), (∀ x ∈ M, x.length = 64) → M.flatten.length = M.length * 64 := by
    intro M
    induction M with
    | nil => intro _; rfl
    | cons a M ih => intro hM; simp only [List.flatten_cons, List.length_append, List.length_cons]; rw [ih (fun x hx => hM x (by simp [hx])), hM a (by simp)]; omega
  rw [this _ hk, List.length_take, List.length_drop]
  congr 1; omega
theorem take_flat {M : List (List UInt8)} {i n : Nat} (h : n ≤ (M.take i).flatten.length) : M.flatten.take n = (M.take i).flatten.take n := by
  have e : M.flatten = (M.take i).flatten ++ (M.drop i).flatten := by rw [← List.flatten_append, List.take_append_drop]
  rw [e, List.take_append_of_le_length h]

set_option maxHeartbeats 4000000 in
set_option maxRecDepth 10000 in
theorem slot_0 {w0 : World} {d : Nat} {k : Dk} {C : List (Nat × Obj)} (h : Has w0 C) (hd : Disk d k C) (hq : k.later = []) (hn4 : 4 ≤ k.lasts.length) (hn : k.lasts.length ≤ 1024) (hok : HdOk (k.lasts.getD 0 [])) :
    Calls Try.prog 79 #[.pointer (some ⟨d, 0, none⟩), .int .i64 0] w0 (SlotPost w0 C (slotOf k.lasts 0 (roomN k.lasts.length))) := by
  have hs := St.start h
  have hS := hd.1.sec
  obtain ⟨hh, hhe⟩ : ∃ hh, k.lasts[0]? = some hh := ⟨_, List.getElem?_eq_getElem (by omega)⟩
  have hgd : k.lasts.getD 0 [] = hh := by simp [List.getD, hhe]
  rw [hgd] at hok
  have hlk := hid (fun (w : World) (h : Has w C) => len_k h hd)
  have hrm := hid (fun w => room_any k.lasts.length (by omega) w)
  have hsp := hid (fun w => span_any k.lasts.length (by omega) w)
  have hrd := hid (fun (w : World) (h : Has w C) (a : Int) (m : Nat) (s : List UInt8) => read_at (a := a) (m := m) (s := s) h hd hq)
  generalize hR : slotOf k.lasts 0 (roomN k.lasts.length) = R
  unfold slotOf at hR
  dsimp only at hR
  rw [hgd] at hR
  have hroom : roomN k.lasts.length = (k.lasts.length / 2 - 1) * 64 := rfl
  have hsp2 : 2 ≤ k.lasts.length / 2 := by omega
  have hspn : k.lasts.length / 2 + k.lasts.length / 2 ≤ k.lasts.length := by omega
  generalize roomN k.lasts.length = room at *
  generalize k.lasts.length / 2 = sp at *
  generalize hL : k.lasts = L at *
  obtain ⟨hl64, he0, he1, hz0, hz1, hf0, hf1⟩ := hok
  have v1 := hid (fun (w : World) (v : Value) (h : Txt w [] v ((hh.drop 5).take 8)) => value_any h (by simp; omega))
  have v2 := hid (fun (w : World) (v : Value) (h : Txt w [] v ((hh.drop 13).take 8)) => value_any h (by simp; omega))
  have v3 := hid (fun (w : World) (v : Value) (h : Txt w [] v ((hh.drop 21).take 4)) => value_any h (by simp; omega))
  have ee : valGo ((hh.drop 5).take 8) 0 = hEp hh := rfl
  have ez : valGo ((hh.drop 13).take 8) 0 = hSz hh := rfl
  have ef : valGo ((hh.drop 21).take 4) 0 = hFo hh := rfl
  rw [ee] at v1
  rw [ez] at v2
  rw [ef] at v3
  obtain ⟨evv, hev⟩ : ∃ ev : Nat, hEp hh = ev := ⟨(hEp hh).toNat, by omega⟩
  obtain ⟨sz, hsz⟩ : ∃ sz : Nat, hSz hh = sz := ⟨(hSz hh).toNat, by omega⟩
  rw [hev] at v1 hR he1
  rw [hsz] at v2 hR hz1
  generalize hfo : hFo hh = fo at *
  have hevv : evv ≤ 1073741824 := by omega
  have hsz1 : sz ≤ 1073741824 := by omega
  clear ee ez ef hev hsz hfo he0 he1 hz0 hz1 hgd
  replace hd := hid hd
  replace hq := hid hq
  replace hL := hid hL
  replace hS := hid hS
  replace hR := hid hR
  replace hhe := hid hhe
  replace hroom := hid hroom
  replace hl64 := hid hl64
  have hrb : room ≤ 65536 := by rw [hroom.out]; omega
  have qs : ((sp : Int) == 0) = false := by rw [beq_eq_false_iff_ne]; omega
  go_enter Try.func79, Try.ntmps79
  go_upto_region 6 with (first
    | (go_at_call 52; refine (hlk.out _ hs.has).mono ?_; rintro e w' ⟨rfl, rfl⟩)
    | (go_at_call 28; refine (hrm.out _).mono ?_; rintro e w' ⟨rfl, rfl⟩)
    | (go_at_call 50; refine (hsp.out _).mono ?_; rintro e w' ⟨rfl, rfl⟩)
    | (go_at_call 36; refine (hrd.out _ hs.has _ 0 hh (by first | rfl | omega) hhe.out).mono ?_; rintro e w ⟨rfl, hs'⟩; replace hs := hs.trans hs'; clear hs')
    | ((with_reducible refine gd_al ?_); refine wl_of rfl (hs.al zc38 ?_); intro hb w hhb hs)
    | ((with_reducible refine gd_st (ty := 38) ?_); refine wl_of rfl (hs.sta 0 rfl rfl ag38 (vs := sv hh) (by first | exact ev rfl | rfl) (by rw [length_sv]; exact hl64.out) (one_sv _) (Nat.le_of_eq rfl) (splice_all (by rw [length_sv, hl64.out]; rfl)) ?_); intro w hs; rw [put_none]; simp only [List.set_cons_zero] at hs))
  replace hs := hs.drew
  have tp1 := txt_part (hs.at 0 rfl) hl64.out 5 8 (by decide)
  have tp2 := txt_part (hs.at 0 rfl) hl64.out 13 8 (by decide)
  have tp3 := txt_part (hs.at 0 rfl) hl64.out 21 4 (by decide)
  refine wp_region_phases [] (fun _ => w.drew) follows (by kernel_rfl) (by kernel_rfl) rfl ?_
  refine LinP.pure rfl rfl (ex_sliceLoHi ar38 (k := .i64) (k' := .i64) (lo := 5) (hi := 13) (ev rfl) rfl rfl (by decide) (by decide) (by decide)) (pu rfl (by simp only [List.set_cons_succ, List.set_cons_zero]; rfl)) ?_
  refine LinP.qcall 0 rfl rfl (by kernel_rfl) (by kernel_rfl) (ex_call rfl rfl (cf92 _ _)) (v1.out _ _ tp1) (pu rfl (by simp only [List.set_cons_succ, List.set_cons_zero]; rfl)) ?_
  refine LinP.pure rfl rfl (fun w => ex_cnv (ev rfl) (run_cv_u64_i64 evv hevv w)) (pu rfl (by simp only [List.set_cons_succ, List.set_cons_zero]; rfl)) ?_
  refine LinP.pure rfl rfl (ex_sliceLoHi ar38 (k := .i64) (k' := .i64) (lo := 13) (hi := 21) (ev rfl) rfl rfl (by decide) (by decide) (by decide)) (pu rfl (by simp only [List.set_cons_succ, List.set_cons_zero]; rfl)) ?_
  refine LinP.qcall 0 rfl rfl (by kernel_rfl) (by kernel_rfl) (ex_call rfl rfl (cf92 _ _)) (v2.out _ _ tp2) (pu rfl (by simp only [List.set_cons_succ, List.set_cons_zero]; rfl)) ?_
  refine LinP.pure rfl rfl (ex_sliceLoHi ar38 (k := .i64) (k' := .i64) (lo := 21) (hi := 25) (ev rfl) rfl rfl (by decide) (by decide) (by decide)) (pu rfl (by simp only [List.set_cons_succ, List.set_cons_zero]; rfl)) ?_
  refine LinP.qcall 0 rfl rfl (by kernel_rfl) (by kernel_rfl) (ex_call rfl rfl (cf92 _ _)) (v3.out _ _ tp3) (pu rfl (by simp only [List.set_cons_succ, List.set_cons_zero]; rfl)) ?_
  refine LinP.pure rfl rfl (fun w => ex_cnv (ev rfl) (run_cv_u64_u32 fo hf0 hf1 w)) (pu rfl (by simp only [List.set_cons_succ, List.set_cons_zero]; rfl)) ?_
  refine LinP.pure rfl rfl (ex_assign (ev rfl)) (pu rfl (by simp only [List.set_cons_succ, List.set_cons_zero]; rfl)) ?_
  refine LinP.pure rfl rfl (ex_assign (ev rfl)) (pu rfl (by simp only [List.set_cons_succ, List.set_cons_zero]; rfl)) ?_
  refine LinP.pure rfl rfl (ex_assign (ev rfl)) (pu rfl (by simp only [List.set_cons_succ, List.set_cons_zero]; rfl)) ?_
  refine LinP.done ?_
  clear tp1 tp2 tp3 v1 v2 v3 hrm
  rcases Nat.lt_or_ge evv 1 with hE | hE
  · obtain rfl : evv = 0 := by omega
    have hRn : R = none := by rw [← hR.out, if_pos (.inl (by decide))]
    subst hRn
    replace hs := hid (St.drop (A := [_]) hs)
    go_wp2_with fail
    refine bodyPost_ret (results79 rfl rfl rfl rfl) rfl ?_
    exact ⟨rfl, hs.out⟩
  have q1 : decide ((evv : Int) < 1) = false := by simp; omega
  rcases Nat.lt_or_ge room sz with hZ | hZ
  · have q2 : decide (room < sz) = true := by simpa using hZ
    have hRn : R = none := by rw [← hR.out, if_pos (.inr (by omega))]
    subst hRn
    replace hs := hid (St.drop (A := [_]) hs)
    go_wp2_with fail
    refine bodyPost_ret (results79 rfl rfl rfl rfl) rfl ?_
    exact ⟨rfl, hs.out⟩
  have q2 : decide (room < sz) = false := by simp; omega
  go_upto_region 10 with fail
  go_loopg [6, 13] sz (fun g bv iv wr => ∃ (i : Nat) (CB : List (Nat × Obj)), iv = .int .i64 i ∧ i ≤ sp - 1 ∧ g = sz - i * 64 ∧ i * 64 < sz + 64 ∧ Hid (Sl 5 1 bv (i * 64) (sv ((L.drop (0 + 1)).take i).flatten) CB) ∧ St w0 (keys C) ((hb, row 38 (sv hh)) :: (CB ++ C)) wr)
  case atStart => exact ⟨0, [], rfl, by omega, by omega, by omega, hid (Sl.nil 5 1), hs⟩
  case round =>
    clear hs
    obtain ⟨i, CB, rfl, hi, rfl, hi64, hsl, hs⟩ := hrel
    by_cases hlt : i * 64 < sz
    · have hi2 : i + 1 ≤ sp - 1 := by have := hroom.out; omega
      obtain ⟨s, hls⟩ : ∃ s, L[(0 + 1 + i)]? = some s := ⟨_, List.getElem?_eq_getElem (by omega)⟩
      have hs64 : s.length = 64 := hS.out s (List.mem_of_getElem? hls)
      have hsn := secs_snoc hls
      have hlen := secs_len hS.out (base := 0) (i := i) (by omega)
      have hnx : (0 + 1 + i) ≤ 1024 := by omega
      have q3 : decide ((i : Int) * 64 < (sz : Int)) = true := by simp; omega
      obtain ⟨acc, hacc⟩ : ∃ acc, ((L.drop (0 + 1)).take i).flatten = acc := ⟨_, rfl⟩
      rw [hacc] at hsn hlen hsl
      have hm : Mid _ acc CB := .inl (by rw [hlen]; exact hsl.out)
      obtain ⟨bA, bc, hbv⟩ := hm.val
      subst hbv
      replace hm := hid hm
      replace hsn := hid hsn
      have hacb : acc.length ≤ 65536 := by omega
      replace hlen := hid hlen
      replace hls := hid hls
      replace hs64 := hid hs64
      replace hacc := hid hacc
      go_wp2_with (first
        | (go_at_call 36; refine (hrd.out _ (Has.right (A := _ :: CB) hs.has) _ (0 + 1 + i) s (by omega) hls.out).mono ?_; rintro e w ⟨rfl, hs'⟩; replace hs := St.callR (A := _ :: CB) hs hs'; clear hs')
        | ((with_reducible refine gd_al ?_); refine wl_of rfl (hs.al zc38 ?_); intro sb w hsb hs)
        | ((with_reducible refine gd_st (ty := 38) ?_); refine wl_of rfl (hs.sta 0 rfl rfl ag38 (vs := sv s) (by first | exact ev rfl | rfl) (by rw [length_sv]; exact hs64.out) (one_sv _) (Nat.le_of_eq rfl) (splice_all (by rw [length_sv, hs64.out]; rfl)) ?_); intro w hs; rw [put_none]; simp only [List.set_cons_zero] at hs)
        | ((with_reducible refine gd_sl ?_); refine wl_of rfl (wp_of_run (ex_sliceWhole ar38 (by first | exact ev rfl | rfl) (by decide) _) ?_))
        | ((with_reducible refine gd_ap ?_); replace hs : St w0 (keys C) ([(sb, row 38 (sv s)), (hb, row 38 (sv hh))] ++ CB ++ C) _ := hs; refine wl_of rfl (St.appM [_, _] C hs hm.out (m := 64) (news := s) (by first | exact ev rfl | rfl) (by first | exact ev rfl | rfl) hs64.out (by decide) (cells_u8r (hs.at 0 rfl)) (by omega) ?_); intro bv' CB' w hs hsl'; replace hsl' := hid hsl'))
      go_roundg (sz - (i + 1) * 64)
      case measure => omega
      case rel => exact ⟨i + 1, CB', by go_num, hi2, rfl, by omega, hid (by
        have h1 := hsl'.out
        rw [List.length_append, hlen.out, hs64.out] at h1
        rw [hsn.out, show (i + 1) * 64 = i * 64 + 64 by omega]
        exact h1), St.drop (A := [_]) hs⟩
    · have q3 : decide ((i : Int) * 64 < (sz : Int)) = false := by simp; omega
      have hlen := secs_len hS.out (base := 0) (i := i) (by omega)
      have hbe : ((L.drop (0 + 1)).flatten).take sz = (((L.drop (0 + 1)).take i).flatten).take sz := take_flat (by omega)
      obtain ⟨v', hv', hby⟩ := run_sl3 (w := wr) hsl.out (n := sz) (by omega) hlen (by omega) (by omega) .u64 .u64
      rw [← hbe] at hby
      rw [Int.toNat_natCast, Int.toNat_natCast] at hR
      have hbl : (((L.drop (0 + 1)).flatten).take sz).length ≤ 65536 := by rw [List.length_take]; omega
      generalize ((L.drop (0 + 1)).flatten).take sz = B at *
      obtain ⟨Bv, Bc, hve, -⟩ := id hby
      subst hve
      replace hlen := hid hlen
      replace hbe := hid hbe
      replace hby := hid hby
      replace hv' := hid hv'
      have hmB : ∀ p ∈ CB, p ∈ (hb, row 38 (sv hh)) :: (CB ++ C) := fun p hp => List.mem_cons_of_mem _ (List.mem_append_left _ hp)
      replace hmB := hid hmB
      go_upto_region 15 with (first
        | ((with_reducible refine gd_sl ?_); refine wl_of rfl (wp_of_run (ex_sl3 (by first | exact ev rfl | rfl) (by first | exact ev rfl | rfl) (by first | exact ev rfl | rfl) hv'.out) ?_)))
      clear q1 q2 q3
      replace hs := hs.drew
      refine any_start follows ?_
      refine any_take 0 rfl (by kernel_rfl) (by kernel_rfl) (by kernel_rfl) (fun _ _ _ h => h) rfl (ex_move (ev rfl)) (pu rfl (by simp only [List.set_cons_succ, List.set_cons_zero]; rfl)) ?_
      refine any_take 1 rfl (by kernel_rfl) (by kernel_rfl) (by kernel_rfl) (fun _ _ _ h => h) rfl (ex_move (ev rfl)) (pu rfl (by simp only [List.set_cons_succ, List.set_cons_zero]; rfl)) ?_
      refine any_take 2 rfl (by kernel_rfl) (by kernel_rfl) (by kernel_rfl) (fun _ _ _ h => h) rfl (ex_move (ev rfl)) (pu rfl (by simp only [List.set_cons_succ, List.set_cons_zero]; rfl)) ?_
      have hl2 : (sv hh).length = 64 := by rw [length_sv]; exact hl64.out
      refine any_two 3 4 (by kernel_rfl) rfl rfl rfl rfl ?_ ?_
      · refine wp_enter (ex_call rfl rfl (cf55 _ _)) ((header_any (hby.out.txt hs hmB.out) (by omega) hevv hf0 hf1).mono ?_)
        rintro e w ⟨rfl, hs'⟩
        refine ⟨_, rfl, ?_⟩
        refine any_put (pu rfl (by simp only [List.set_cons_succ, List.set_cons_zero]; rfl)) ?_
        replace hs := hs.plus hs'
        rw [List.append_nil] at hs
        clear hs'
        refine any_one 4 (by kernel_rfl) rfl rfl ?_
        refine hs.lda 0 rfl (ev rfl) ag38 (vs := sv hh) (Nat.le_of_eq (by rw [hl2])) (by simp [cut, ← hl2]) ?_
        refine any_put (pu rfl (by simp only [List.set_cons_succ, List.set_cons_zero]; rfl)) ?_
        refine any_one 5 (by kernel_rfl) rfl rfl ?_
        refine wp_of_run (ex_bin (ev rfl) (ev rfl) (eqguard38 _ _ _ _ _ _) (run_neq_arr Try.underlying38 sc5 Try.underlying5 (headL_len _ _ _) hl64.out)) ?_
        refine any_put (pu rfl (by simp only [List.set_cons_succ, List.set_cons_zero]; rfl)) ?_
        refine any_done (by kernel_rfl) ?_
        cases hq : (headL (evv : Int) fo B == hh) with
        | true =>
          have hRs : R = some (evv, fo, B) := by rw [← hR.out, if_neg (by omega), if_pos (by simpa using hq)]
          subst hRs
          replace hs := hid (St.drop (A := [_]) hs)
          replace hq := hid hq
          rw [show (!true) = false from rfl]
          go_wp2_with fail
          refine bodyPost_ret (results79 rfl rfl rfl rfl) rfl ?_
          exact ⟨_, CB, rfl, hby.out, hs.out⟩
        | false =>
          have hRs : R = none := by rw [← hR.out, if_neg (by omega), if_neg (by simpa using hq)]
          subst hRs
          replace hs := hid (St.drop (A := _ :: CB) hs)
          replace hq := hid hq
          rw [show (!false) = true from rfl]
          go_wp2_with fail
          refine bodyPost_ret (results79 rfl rfl rfl rfl) rfl ?_
          exact ⟨rfl, hs.out⟩
      · refine hs.lda 0 rfl (ev rfl) ag38 (vs := sv hh) (Nat.le_of_eq (by rw [hl2])) (by simp [cut, ← hl2]) ?_
        refine any_put (pu rfl (by simp only [List.set_cons_succ, List.set_cons_zero]; rfl)) ?_
        refine any_one 3 (by kernel_rfl) rfl rfl ?_
        refine wp_enter (ex_call rfl rfl (cf55 _ _)) ((header_any (hby.out.txt hs hmB.out) (by omega) hevv hf0 hf1).mono ?_)
        rintro e w ⟨rfl, hs'⟩
        refine ⟨_, rfl, ?_⟩
        refine any_put (pu rfl (by simp only [List.set_cons_succ, List.set_cons_zero]; rfl)) ?_
        replace hs := hs.plus hs'
        rw [List.append_nil] at hs
        clear hs'
        refine any_one 5 (by kernel_rfl) rfl rfl ?_
        refine wp_of_run (ex_bin (ev rfl) (ev rfl) (eqguard38 _ _ _ _ _ _) (run_neq_arr Try.underlying38 sc5 Try.underlying5 (headL_len _ _ _) hl64.out)) ?_
        refine any_put (pu rfl (by simp only [List.set_cons_succ, List.set_cons_zero]; rfl)) ?_
        refine any_done (by kernel_rfl) ?_
        cases hq : (headL (evv : Int) fo B == hh) with
        | true =>
          have hRs : R = some (evv, fo, B) := by rw [← hR.out, if_neg (by omega), if_pos (by simpa using hq)]
          subst hRs
          replace hs := hid (St.drop (A := [_]) hs)
          replace hq := hid hq
          rw [show (!true) = false from rfl]
          go_wp2_with fail
          refine bodyPost_ret (results79 rfl rfl rfl rfl) rfl ?_
          exact ⟨_, CB, rfl, hby.out, hs.out⟩
        | false =>
          have hRs : R = none := by rw [← hR.out, if_neg (by omega), if_neg (by simpa using hq)]
          subst hRs
          replace hs := hid (St.drop (A := _ :: CB) hs)
          replace hq := hid hq
          rw [show (!false) = true from rfl]
          go_wp2_with fail
          refine bodyPost_ret (results79 rfl rfl rfl rfl) rfl ?_
          exact ⟨rfl, hs.out⟩
set_option maxHeartbeats 4000000 in
set_option maxRecDepth 10000 in
theorem slot_1 {w0 : World} {d : Nat} {k : Dk} {C : List (Nat × Obj)} (h : Has w0 C) (hd : Disk d k C) (hq : k.later = []) (hn4 : 4 ≤ k.lasts.length) (hn : k.lasts.length ≤ 1024) (hok : HdOk (k.lasts.getD (k.lasts.length / 2) [])) :
    Calls Try.prog 79 #[.pointer (some ⟨d, 0, none⟩), .int .i64 1] w0 (SlotPost w0 C (slotOf k.lasts (k.lasts.length / 2) (roomN k.lasts.length))) := by
  have hs := St.start h
  have hS := hd.1.sec
  obtain ⟨hh, hhe⟩ : ∃ hh, k.lasts[(k.lasts.length / 2)]? = some hh := ⟨_, List.getElem?_eq_getElem (by omega)⟩
  have hgd : k.lasts.getD (k.lasts.length / 2) [] = hh := by simp [List.getD, hhe]
  rw [hgd] at hok
  have hlk := hid (fun (w : World) (h : Has w C) => len_k h hd)
  have hrm := hid (fun w => room_any k.lasts.length (by omega) w)
  have hsp := hid (fun w => span_any k.lasts.length (by omega) w)
  have hrd := hid (fun (w : World) (h : Has w C) (a : Int) (m : Nat) (s : List UInt8) => read_at (a := a) (m := m) (s := s) h hd hq)
  generalize hR : slotOf k.lasts (k.lasts.length / 2) (roomN k.lasts.length) = R
  unfold slotOf at hR
  dsimp only at hR
  rw [hgd] at hR
  have hroom : roomN k.lasts.length = (k.lasts.length / 2 - 1) * 64 := rfl
  have hsp2 : 2 ≤ k.lasts.length / 2 := by omega
  have hspn : k.lasts.length / 2 + k.lasts.length / 2 ≤ k.lasts.length := by omega
  generalize roomN k.lasts.length = room at *
  generalize k.lasts.length / 2 = sp at *
  generalize hL : k.lasts = L at *
  obtain ⟨hl64, he0, he1, hz0, hz1, hf0, hf1⟩ := hok
  have v1 := hid (fun (w : World) (v : Value) (h : Txt w [] v ((hh.drop 5).take 8)) => value_any h (by simp; omega))
  have v2 := hid (fun (w : World) (v : Value) (h : Txt w [] v ((hh.drop 13).take 8)) => value_any h (by simp; omega))
  have v3 := hid (fun (w : World) (v : Value) (h : Txt w [] v ((hh.drop 21).take 4)) => value_any h (by simp; omega))
  have ee : valGo ((hh.drop 5).take 8) 0 = hEp hh := rfl
  have ez : valGo ((hh.drop 13).take 8) 0 = hSz hh := rfl
  have ef : valGo ((hh.drop 21).take 4) 0 = hFo hh := rfl
  rw [ee] at v1
  rw [ez] at v2
  rw [ef] at v3
  obtain ⟨evv, hev⟩ : ∃ ev : Nat, hEp hh = ev := ⟨(hEp hh).toNat, by omega⟩
  obtain ⟨sz, hsz⟩ : ∃ sz : Nat, hSz hh = sz := ⟨(hSz hh).toNat, by omega⟩
  rw [hev] at v1 hR he1
  rw [hsz] at v2 hR hz1
  generalize hfo : hFo hh = fo at *
  have hevv : evv ≤ 1073741824 := by omega
  have hsz1 : sz ≤ 1073741824 := by omega
  clear ee ez ef hev hsz hfo he0 he1 hz0 hz1 hgd
  replace hd := hid hd
  replace hq := hid hq
  replace hL := hid hL
  replace hS := hid hS
  replace hR := hid hR
  replace hhe := hid hhe
  replace hroom := hid hroom
  replace hl64 := hid hl64
  have hrb : room ≤ 65536 := by rw [hroom.out]; omega
  have qs : ((sp : Int) == 0) = false := by rw [beq_eq_false_iff_ne]; omega
  go_enter Try.func79, Try.ntmps79
  go_upto_region 6 with (first
    | (go_at_call 52; refine (hlk.out _ hs.has).mono ?_; rintro e w' ⟨rfl, rfl⟩)
    | (go_at_call 28; refine (hrm.out _).mono ?_; rintro e w' ⟨rfl, rfl⟩)
    | (go_at_call 50; refine (hsp.out _).mono ?_; rintro e w' ⟨rfl, rfl⟩)
    | (go_at_call 36; refine (hrd.out _ hs.has _ sp hh (by first | rfl | omega) hhe.out).mono ?_; rintro e w ⟨rfl, hs'⟩; replace hs := hs.trans hs'; clear hs')
    | ((with_reducible refine gd_al ?_); refine wl_of rfl (hs.al zc38 ?_); intro hb w hhb hs)
    | ((with_reducible refine gd_st (ty := 38) ?_); refine wl_of rfl (hs.sta 0 rfl rfl ag38 (vs := sv hh) (by first | exact ev rfl | rfl) (by rw [length_sv]; exact hl64.out) (one_sv _) (Nat.le_of_eq rfl) (splice_all (by rw [length_sv, hl64.out]; rfl)) ?_); intro w hs; rw [put_none]; simp only [List.set_cons_zero] at hs))
  replace hs := hs.drew
  have tp1 := txt_part (hs.at 0 rfl) hl64.out 5 8 (by decide)
  have tp2 := txt_part (hs.at 0 rfl) hl64.out 13 8 (by decide)
  have tp3 := txt_part (hs.at 0 rfl) hl64.out 21 4 (by decide)
  refine wp_region_phases [] (fun _ => w.drew) follows (by kernel_rfl) (by kernel_rfl) rfl ?_
  refine LinP.pure rfl rfl (ex_sliceLoHi ar38 (k := .i64) (k' := .i64) (lo := 5) (hi := 13) (ev rfl) rfl rfl (by decide) (by decide) (by decide)) (pu rfl (by simp only [List.set_cons_succ, List.set_cons_zero]; rfl)) ?_
  refine LinP.qcall 0 rfl rfl (by kernel_rfl) (by kernel_rfl) (ex_call rfl rfl (cf92 _ _)) (v1.out _ _ tp1) (pu rfl (by simp only [List.set_cons_succ, List.set_cons_zero]; rfl)) ?_
  refine LinP.pure rfl rfl (fun w => ex_cnv (ev rfl) (run_cv_u64_i64 evv hevv w)) (pu rfl (by simp only [List.set_cons_succ, List.set_cons_zero]; rfl)) ?_
  refine LinP.pure rfl rfl (ex_sliceLoHi ar38 (k := .i64) (k' := .i64) (lo := 13) (hi := 21) (ev rfl) rfl rfl (by decide) (by decide) (by decide)) (pu rfl (by simp only [List.set_cons_succ, List.set_cons_zero]; rfl)) ?_
  refine LinP.qcall 0 rfl rfl (by kernel_rfl) (by kernel_rfl) (ex_call rfl rfl (cf92 _ _)) (v2.out _ _ tp2) (pu rfl (by simp only [List.set_cons_succ, List.set_cons_zero]; rfl)) ?_
  refine LinP.pure rfl rfl (ex_sliceLoHi ar38 (k := .i64) (k' := .i64) (lo := 21) (hi := 25) (ev rfl) rfl rfl (by decide) (by decide) (by decide)) (pu rfl (by simp only [List.set_cons_succ, List.set_cons_zero]; rfl)) ?_
  refine LinP.qcall 0 rfl rfl (by kernel_rfl) (by kernel_rfl) (ex_call rfl rfl (cf92 _ _)) (v3.out _ _ tp3) (pu rfl (by simp only [List.set_cons_succ, List.set_cons_zero]; rfl)) ?_
  refine LinP.pure rfl rfl (fun w => ex_cnv (ev rfl) (run_cv_u64_u32 fo hf0 hf1 w)) (pu rfl (by simp only [List.set_cons_succ, List.set_cons_zero]; rfl)) ?_
  refine LinP.pure rfl rfl (ex_assign (ev rfl)) (pu rfl (by simp only [List.set_cons_succ, List.set_cons_zero]; rfl)) ?_
  refine LinP.pure rfl rfl (ex_assign (ev rfl)) (pu rfl (by simp only [List.set_cons_succ, List.set_cons_zero]; rfl)) ?_
  refine LinP.pure rfl rfl (ex_assign (ev rfl)) (pu rfl (by simp only [List.set_cons_succ, List.set_cons_zero]; rfl)) ?_
  refine LinP.done ?_
  clear tp1 tp2 tp3 v1 v2 v3 hrm
  rcases Nat.lt_or_ge evv 1 with hE | hE
  · obtain rfl : evv = 0 := by omega
    have hRn : R = none := by rw [← hR.out, if_pos (.inl (by decide))]
    subst hRn
    replace hs := hid (St.drop (A := [_]) hs)
    go_wp2_with fail
    refine bodyPost_ret (results79 rfl rfl rfl rfl) rfl ?_
    exact ⟨rfl, hs.out⟩
  have q1 : decide ((evv : Int) < 1) = false := by simp; omega
  rcases Nat.lt_or_ge room sz with hZ | hZ
  · have q2 : decide (room < sz) = true := by simpa using hZ
    have hRn : R = none := by rw [← hR.out, if_pos (.inr (by omega))]
    subst hRn
    replace hs := hid (St.drop (A := [_]) hs)
    go_wp2_with fail
    refine bodyPost_ret (results79 rfl rfl rfl rfl) rfl ?_
    exact ⟨rfl, hs.out⟩
  have q2 : decide (room < sz) = false := by simp; omega
  go_upto_region 10 with fail
  go_loopg [6, 13] sz (fun g bv iv wr => ∃ (i : Nat) (CB : List (Nat × Obj)), iv = .int .i64 i ∧ i ≤ sp - 1 ∧ g = sz - i * 64 ∧ i * 64 < sz + 64 ∧ Hid (Sl 5 1 bv (i * 64) (sv ((L.drop (sp + 1)).take i).flatten) CB) ∧ St w0 (keys C) ((hb, row 38 (sv hh)) :: (CB ++ C)) wr)
  case atStart => exact ⟨0, [], rfl, by omega, by omega, by omega, hid (Sl.nil 5 1), hs⟩
  case round =>
    clear hs
    obtain ⟨i, CB, rfl, hi, rfl, hi64, hsl, hs⟩ := hrel
    by_cases hlt : i * 64 < sz
    · have hi2 : i + 1 ≤ sp - 1 := by have := hroom.out; omega
      obtain ⟨s, hls⟩ : ∃ s, L[(sp + 1 + i)]? = some s := ⟨_, List.getElem?_eq_getElem (by omega)⟩
      have hs64 : s.length = 64 := hS.out s (List.mem_of_getElem? hls)
      have hsn := secs_snoc hls
      have hlen := secs_len hS.out (base := sp) (i := i) (by omega)
      have hnx : (sp + 1 + i) ≤ 1024 := by omega
      have q3 : decide ((i : Int) * 64 < (sz : Int)) = true := by simp; omega
      obtain ⟨acc, hacc⟩ : ∃ acc, ((L.drop (sp + 1)).take i).flatten = acc := ⟨_, rfl⟩
      rw [hacc] at hsn hlen hsl
      have hm : Mid _ acc CB := .inl (by rw [hlen]; exact hsl.out)
      obtain ⟨bA, bc, hbv⟩ := hm.val
      subst hbv
      replace hm := hid hm
      replace hsn := hid hsn
      have hacb : acc.length ≤ 65536 := by omega
      replace hlen := hid hlen
      replace hls := hid hls
      replace hs64 := hid hs64
      replace hacc := hid hacc
      go_wp2_with (first
        | (go_at_call 36; refine (hrd.out _ (Has.right (A := _ :: CB) hs.has) _ (sp + 1 + i) s (by omega) hls.out).mono ?_; rintro e w ⟨rfl, hs'⟩; replace hs := St.callR (A := _ :: CB) hs hs'; clear hs')
        | ((with_reducible refine gd_al ?_); refine wl_of rfl (hs.al zc38 ?_); intro sb w hsb hs)
        | ((with_reducible refine gd_st (ty := 38) ?_); refine wl_of rfl (hs.sta 0 rfl rfl ag38 (vs := sv s) (by first | exact ev rfl | rfl) (by rw [length_sv]; exact hs64.out) (one_sv _) (Nat.le_of_eq rfl) (splice_all (by rw [length_sv, hs64.out]; rfl)) ?_); intro w hs; rw [put_none]; simp only [List.set_cons_zero] at hs)
        | ((with_reducible refine gd_sl ?_); refine wl_of rfl (wp_of_run (ex_sliceWhole ar38 (by first | exact ev rfl | rfl) (by decide) _) ?_))
        | ((with_reducible refine gd_ap ?_); replace hs : St w0 (keys C) ([(sb, row 38 (sv s)), (hb, row 38 (sv hh))] ++ CB ++ C) _ := hs; refine wl_of rfl (St.appM [_, _] C hs hm.out (m := 64) (news := s) (by first | exact ev rfl | rfl) (by first | exact ev rfl | rfl) hs64.out (by decide) (cells_u8r (hs.at 0 rfl)) (by omega) ?_); intro bv' CB' w hs hsl'; replace hsl' := hid hsl'))
      go_roundg (sz - (i + 1) * 64)
      case measure => omega
      case rel => exact ⟨i + 1, CB', by go_num, hi2, rfl, by omega, hid (by
        have h1 := hsl'.out
        rw [List.length_append, hlen.out, hs64.out] at h1
        rw [hsn.out, show (i + 1) * 64 = i * 64 + 64 by omega]
        exact h1), St.drop (A := [_]) hs⟩
    · have q3 : decide ((i : Int) * 64 < (sz : Int)) = false := by simp; omega
      have hlen := secs_len hS.out (base := sp) (i := i) (by omega)
      have hbe : ((L.drop (sp + 1)).flatten).take sz = (((L.drop (sp + 1)).take i).flatten).take sz := take_flat (by omega)
      obtain ⟨v', hv', hby⟩ := run_sl3 (w := wr) hsl.out (n := sz) (by omega) hlen (by omega) (by omega) .u64 .u64
      rw [← hbe] at hby
      rw [Int.toNat_natCast, Int.toNat_natCast] at hR
      have hbl : (((L.drop (sp + 1)).flatten).take sz).length ≤ 65536 := by rw [List.length_take]; omega
      generalize ((L.drop (sp + 1)).flatten).take sz = B at *
      obtain ⟨Bv, Bc, hve, -⟩ := id hby
      subst hve
      replace hlen := hid hlen
      replace hbe := hid hbe
      replace hby := hid hby
      replace hv' := hid hv'
      have hmB : ∀ p ∈ CB, p ∈ (hb, row 38 (sv hh)) :: (CB ++ C) := fun p hp => List.mem_cons_of_mem _ (List.mem_append_left _ hp)
      replace hmB := hid hmB
      go_upto_region 15 with (first
        | ((with_reducible refine gd_sl ?_); refine wl_of rfl (wp_of_run (ex_sl3 (by first | exact ev rfl | rfl) (by first | exact ev rfl | rfl) (by first | exact ev rfl | rfl) hv'.out) ?_)))
      clear q1 q2 q3
      replace hs := hs.drew
      refine any_start follows ?_
      refine any_take 0 rfl (by kernel_rfl) (by kernel_rfl) (by kernel_rfl) (fun _ _ _ h => h) rfl (ex_move (ev rfl)) (pu rfl (by simp only [List.set_cons_succ, List.set_cons_zero]; rfl)) ?_
      refine any_take 1 rfl (by kernel_rfl) (by kernel_rfl) (by kernel_rfl) (fun _ _ _ h => h) rfl (ex_move (ev rfl)) (pu rfl (by simp only [List.set_cons_succ, List.set_cons_zero]; rfl)) ?_
      refine any_take 2 rfl (by kernel_rfl) (by kernel_rfl) (by kernel_rfl) (fun _ _ _ h => h) rfl (ex_move (ev rfl)) (pu rfl (by simp only [List.set_cons_succ, List.set_cons_zero]; rfl)) ?_
      have hl2 : (sv hh).length = 64 := by rw [length_sv]; exact hl64.out
      refine any_two 3 4 (by kernel_rfl) rfl rfl rfl rfl ?_ ?_
      · refine wp_enter (ex_call rfl rfl (cf55 _ _)) ((header_any (hby.out.txt hs hmB.out) (by omega) hevv hf0 hf1).mono ?_)
        rintro e w ⟨rfl, hs'⟩
        refine ⟨_, rfl, ?_⟩
        refine any_put (pu rfl (by simp only [List.set_cons_succ, List.set_cons_zero]; rfl)) ?_
        replace hs := hs.plus hs'
        rw [List.append_nil] at hs
        clear hs'
        refine any_one 4 (by kernel_rfl) rfl rfl ?_
        refine hs.lda 0 rfl (ev rfl) ag38 (vs := sv hh) (Nat.le_of_eq (by rw [hl2])) (by simp [cut, ← hl2]) ?_
        refine any_put (pu rfl (by simp only [List.set_cons_succ, List.set_cons_zero]; rfl)) ?_
        refine any_one 5 (by kernel_rfl) rfl rfl ?_
        refine wp_of_run (ex_bin (ev rfl) (ev rfl) (eqguard38 _ _ _ _ _ _) (run_neq_arr Try.underlying38 sc5 Try.underlying5 (headL_len _ _ _) hl64.out)) ?_
        refine any_put (pu rfl (by simp only [List.set_cons_succ, List.set_cons_zero]; rfl)) ?_
        refine any_done (by kernel_rfl) ?_
        cases hq : (headL (evv : Int) fo B == hh) with
        | true =>
          have hRs : R = some (evv, fo, B) := by rw [← hR.out, if_neg (by omega), if_pos (by simpa using hq)]
          subst hRs
          replace hs := hid (St.drop (A := [_]) hs)
          replace hq := hid hq
          rw [show (!true) = false from rfl]
          go_wp2_with fail
          refine bodyPost_ret (results79 rfl rfl rfl rfl) rfl ?_
          exact ⟨_, CB, rfl, hby.out, hs.out⟩
        | false =>
          have hRs : R = none := by rw [← hR.out, if_neg (by omega), if_neg (by simpa using hq)]
          subst hRs
          replace hs := hid (St.drop (A := _ :: CB) hs)
          replace hq := hid hq
          rw [show (!false) = true from rfl]
          go_wp2_with fail
          refine bodyPost_ret (results79 rfl rfl rfl rfl) rfl ?_
          exact ⟨rfl, hs.out⟩
      · refine hs.lda 0 rfl (ev rfl) ag38 (vs := sv hh) (Nat.le_of_eq (by rw [hl2])) (by simp [cut, ← hl2]) ?_
        refine any_put (pu rfl (by simp only [List.set_cons_succ, List.set_cons_zero]; rfl)) ?_
        refine any_one 3 (by kernel_rfl) rfl rfl ?_
        refine wp_enter (ex_call rfl rfl (cf55 _ _)) ((header_any (hby.out.txt hs hmB.out) (by omega) hevv hf0 hf1).mono ?_)
        rintro e w ⟨rfl, hs'⟩
        refine ⟨_, rfl, ?_⟩
        refine any_put (pu rfl (by simp only [List.set_cons_succ, List.set_cons_zero]; rfl)) ?_
        replace hs := hs.plus hs'
        rw [List.append_nil] at hs
        clear hs'
        refine any_one 5 (by kernel_rfl) rfl rfl ?_
        refine wp_of_run (ex_bin (ev rfl) (ev rfl) (eqguard38 _ _ _ _ _ _) (run_neq_arr Try.underlying38 sc5 Try.underlying5 (headL_len _ _ _) hl64.out)) ?_
        refine any_put (pu rfl (by simp only [List.set_cons_succ, List.set_cons_zero]; rfl)) ?_
        refine any_done (by kernel_rfl) ?_
        cases hq : (headL (evv : Int) fo B == hh) with
        | true =>
          have hRs : R = some (evv, fo, B) := by rw [← hR.out, if_neg (by omega), if_pos (by simpa using hq)]
          subst hRs
          replace hs := hid (St.drop (A := [_]) hs)
          replace hq := hid hq
          rw [show (!true) = false from rfl]
          go_wp2_with fail
          refine bodyPost_ret (results79 rfl rfl rfl rfl) rfl ?_
          exact ⟨_, CB, rfl, hby.out, hs.out⟩
        | false =>
          have hRs : R = none := by rw [← hR.out, if_neg (by omega), if_neg (by simpa using hq)]
          subst hRs
          replace hs := hid (St.drop (A := _ :: CB) hs)
          replace hq := hid hq
          rw [show (!false) = true from rfl]
          go_wp2_with fail
          refine bodyPost_ret (results79 rfl rfl rfl rfl) rfl ?_
          exact ⟨rfl, hs.out⟩
end Go.Proofs.Ytclingkhdmhhoaa

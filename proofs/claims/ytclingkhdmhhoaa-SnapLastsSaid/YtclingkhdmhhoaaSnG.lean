/- The walks of snap's newest, highest and Load. No condition. -/
import Derived.Test.YtclingkhdmhhoaaSnF
namespace Go.Proofs.Ytclingkhdmhhoaa
open Go.RowKit
set_option linter.unusedSimpArgs false
set_option linter.unusedVariables false

def baseOf (n i : Nat) : Nat := if i = 0 then 0 else n / 2
abbrev SlotV := Option (Nat × Int × List UInt8)
/-- what the slots of sectors tell -/
def slotsOf (L : List (List UInt8)) (i : Nat) : SlotV := slotOf L (baseOf L.length i) (roomN L.length)
/-- a disk on which no write waits, and whose headers have small numbers -/
structure Calm (k : Dk) : Prop where
  later : k.later = []
  len4 : 4 ≤ k.lasts.length
  len : k.lasts.length ≤ 1024
  hd : ∀ i, i < 2 → HdOk (k.lasts.getD (baseOf k.lasts.length i) [])
theorem slot_c {w0 : World} {d : Nat} {k : Dk} {C : List (Nat × Obj)} (h : Has w0 C) (hd : Disk d k C) (hc : Calm k) {i : Nat} (hi : i < 2) :
    Calls Try.prog 79 #[.pointer (some ⟨d, 0, none⟩), .int .i64 (i : Int)] w0 (SlotPost w0 C (slotsOf k.lasts i)) := by
  have h0 := hc.hd i hi
  match i, hi, h0 with
  | 0, _, h0 => exact slot_0 h hd hc.later hc.len4 hc.len h0
  | 1, _, h0 => exact slot_1 h hd hc.later hc.len4 hc.len h0
theorem slot_none {w0 : World} {d : Nat} {k : Dk} {C : List (Nat × Obj)} (h : Has w0 C) (hd : Disk d k C) (hc : Calm k) {i : Nat} (hi : i < 2) (hr : slotsOf k.lasts i = none) :
    Calls Try.prog 79 #[.pointer (some ⟨d, 0, none⟩), .int .i64 (i : Int)] w0 fun e w' => e = .returned (.tuple #[.int .i64 0, .int .u32 0, .slice none 0 0, .bool false]) ∧ St w0 (keys C) C w' := by
  have := slot_c h hd hc hi
  rw [hr] at this
  exact this
theorem slot_some {w0 : World} {d : Nat} {k : Dk} {C : List (Nat × Obj)} (h : Has w0 C) (hd : Disk d k C) (hc : Calm k) {i : Nat} (hi : i < 2) {ep : Nat} {f : Int} {b : List UInt8} (hr : slotsOf k.lasts i = some (ep, f, b)) :
    Calls Try.prog 79 #[.pointer (some ⟨d, 0, none⟩), .int .i64 (i : Int)] w0 fun e w' => ∃ v CB, e = .returned (.tuple #[.int .i64 ep, .int .u32 f, v, .bool true]) ∧ Hid (Byt v b CB) ∧ St w0 (keys C) (CB ++ C) w' := by
  have := slot_c h hd hc hi
  rw [hr] at this
  exact this.mono fun e w' ⟨v, CB, h1, h2, h3⟩ => ⟨v, CB, h1, hid h2, h3⟩
/-- the slot, the epoch, the bytes so far -/
structure Nw where
  slot : Int
  ep : Nat
  b : List UInt8
def Nw.step (f : Int) (s : Nw) (i : Nat) : SlotV → Nw
  | some (e, f', b) => if f' = f ∧ s.ep < e then ⟨i, e, b⟩ else s
  | none => s
def nwAt (f : Int) (sl : Nat → SlotV) : Nat → Nw
  | 0 => ⟨-1, 0, []⟩
  | k + 1 => Nw.step f (nwAt f sl k) k (sl k)
theorem slot_ep {L : List (List UInt8)} {i ep : Nat} {f : Int} {b : List UInt8} (h : slotsOf L i = some (ep, f, b)) (hz : hEp (L.getD (baseOf L.length i) []) ≤ 1073741824) : ep ≤ 1073741824 := by
  unfold slotsOf slotOf at h
  dsimp only at h
  split at h
  · cases h
  · split at h
    · simp only [Option.some.injEq, Prod.mk.injEq] at h
      omega
    · cases h
theorem nw_ep {f : Int} {sl : Nat → SlotV} (h : ∀ i e f' b, i < 2 → sl i = some (e, f', b) → e ≤ 1073741824) : ∀ k, k ≤ 2 → (nwAt f sl k).ep ≤ 1073741824
  | 0, _ => by simp [nwAt]
  | k + 1, hk => by
    have ih := nw_ep (f := f) h k (by omega)
    simp only [nwAt]
    cases hs : sl k with
    | none => exact ih
    | some x =>
      obtain ⟨e, f', b⟩ := x
      simp only [Nw.step]
      split
      · exact h k e f' b (by omega) hs
      · exact ih
theorem results53 {w : World} {v4 v5 v6 : Value} {tmps : Array Value} (t4 : tmps.getD 4 undef = v4) (t5 : tmps.getD 5 undef = v5) (t6 : tmps.getD 6 undef = v6) :
    (results Try.f53 tmps).run Try.prog w = .ok (.tuple #[v4, v5, v6]) w := by
  rw [Array.getD_eq_getD_getElem?] at t4 t5 t6
  simp [results, Try.f53, t4, t5, t6]
set_option maxHeartbeats 2000000 in
set_option maxRecDepth 4000 in
theorem newest_any {w0 : World} {d : Nat} {k : Dk} {C : List (Nat × Obj)} {f : Int} (h : Has w0 C) (hd : Disk d k C) (hc : Calm k) :
    Calls Try.prog 53 #[.pointer (some ⟨d, 0, none⟩), .int .u32 f] w0 fun e w' => ∃ v CB, e = .returned (.tuple #[.int .i64 (nwAt f (slotsOf k.lasts) 2).slot, .int .i64 (nwAt f (slotsOf k.lasts) 2).ep, v]) ∧ Hid (Byt v (nwAt f (slotsOf k.lasts) 2).b CB) ∧ St w0 (keys C) (CB ++ C) w' := by
  have hs : St w0 (keys C) ([] ++ C) w0 := St.start h
  have hbd := hid (fun kk (hk : kk ≤ 2) => nw_ep (f := f) (sl := slotsOf k.lasts) (fun i e f' b hi hb => slot_ep hb (hc.hd i hi).ep) kk hk)
  have hsn := hid (fun (w : World) (h : Has w C) (i : Nat) (hi : i < 2) (hr : slotsOf k.lasts i = none) => slot_none h hd hc hi hr)
  have hss := hid (fun (w : World) (h : Has w C) (i : Nat) (hi : i < 2) (ep : Nat) (f : Int) (b : List UInt8) (hr : slotsOf k.lasts i = some (ep, f, b)) => slot_some h hd hc hi hr)
  have hse := hid (fun (i : Nat) (hi : i < 2) (ep : Nat) (f : Int) (b : List UInt8) (hr : slotsOf k.lasts i = some (ep, f, b)) => slot_ep hr (hc.hd i hi).ep)
  generalize slotsOf k.lasts = sl at *
  generalize hN : nwAt f sl = N at *
  have h0 : N 0 = ⟨-1, 0, []⟩ := by rw [← hN]; rfl
  have h1 : ∀ i, N (i + 1) = Nw.step f (N i) i (sl i) := fun i => by rw [← hN]; rfl
  replace h0 := hid h0
  replace h1 := hid h1
  replace hd := hid hd
  replace hc := hid hc
  replace hN := hid hN
  go_enter Try.func53, Try.ntmps53
  go_wp2_with fail
  go_loopg [4, 5, 6, 12] 2 (fun g sv ev bv iv wr => ∃ (i : Nat) (CB : List (Nat × Obj)), iv = .int .i64 i ∧ i ≤ 2 ∧ g = 2 - i ∧ sv = .int .i64 (N i).slot ∧ ev = .int .i64 (N i).ep ∧ Hid (Byt bv (N i).b CB) ∧ St w0 (keys C) (CB ++ C) wr)
  case atStart => exact ⟨0, [], rfl, by omega, rfl, by rw [h0.out], by rw [h0.out]; rfl, hid (by rw [h0.out]; exact ⟨none, 0, rfl, Nat.le_refl _, by simp [maxLen], .inl rfl⟩), hs⟩
  case round =>
    clear hs
    obtain ⟨i, CB, rfl, hi, rfl, rfl, rfl, hby, hs⟩ := hrel
    by_cases hlt : i < 2
    · have hst := hid (h1.out i)
      have hep := hbd.out i (by omega)
      generalize hN1 : N i = N1 at *
      replace hN1 := hid hN1
      obtain ⟨n1, e1, b1⟩ := N1
      simp only at hep hby ⊢
      cases hsl : sl i with
      | none =>
        have hst2 : N (i + 1) = ⟨n1, e1, b1⟩ := by rw [hst.out, hsl]; rfl
        replace hst2 := hid hst2
        replace hsl := hid hsl
        go_wp2_with (first
          | (go_at_call 79; refine (hsn.out _ hs.has.right i hlt hsl.out).mono ?_; rintro e w ⟨rfl, hs'⟩; replace hs := St.callR hs hs'; clear hs'))
        go_roundg (2 - (i + 1))
        case measure => omega
        case rel => exact ⟨i + 1, CB, by go_num, hlt, rfl, by rw [hst2.out], by rw [hst2.out], hid (by rw [hst2.out]; exact hby.out), hs⟩
      | some x =>
        obtain ⟨ep, f', b⟩ := x
        have hep2 := hse.out i hlt ep f' b hsl
        by_cases hff : f' = f
        · by_cases hee : e1 < ep
          · have hst2 : N (i + 1) = ⟨i, ep, b⟩ := by rw [hst.out, hsl]; simp only [Nw.step]; rw [if_pos ⟨hff, hee⟩]
            subst hff
            have q2 : decide (e1 < ep) = true := by simpa using hee
            have hst2 := hid hst2
            replace hsl := hid hsl
            go_wp2_with (first
              | (go_at_call 79; refine (hss.out _ hs.has.right i hlt ep f' b hsl.out).mono ?_; rintro e w ⟨v, CB2, rfl, hby2, hs'⟩; replace hs := St.callR hs hs'; clear hs'))
            go_roundg (2 - (i + 1))
            case measure => omega
            case rel => exact ⟨i + 1, CB2, by go_num, hlt, rfl, by rw [hst2.out], by rw [hst2.out], hid (by rw [hst2.out]; exact hby2.out), St.drop (A := CB) hs⟩
          · have hst2 : N (i + 1) = ⟨n1, e1, b1⟩ := by rw [hst.out, hsl]; simp only [Nw.step]; rw [if_neg (fun h => hee h.2)]
            subst hff
            have q2 : decide (e1 < ep) = false := by simp; omega
            have hst2 := hid hst2
            replace hsl := hid hsl
            go_wp2_with (first
              | (go_at_call 79; refine (hss.out _ hs.has.right i hlt ep f' b hsl.out).mono ?_; rintro e w ⟨v, CB2, rfl, hby2, hs'⟩; replace hs := St.callR hs hs'; clear hs'))
            go_roundg (2 - (i + 1))
            case measure => omega
            case rel => exact ⟨i + 1, CB, by go_num, hlt, rfl, by rw [hst2.out], by rw [hst2.out], hid (by rw [hst2.out]; exact hby.out), St.dropMid (A := CB) (C := CB2) (B := C) (by rw [List.append_assoc]; exact hs)⟩
        · have hst2 : N (i + 1) = ⟨n1, e1, b1⟩ := by rw [hst.out, hsl]; simp only [Nw.step]; rw [if_neg (fun h => hff h.1)]
          have q2 : (f' == f) = false := by rw [beq_eq_false_iff_ne]; exact hff
          have hst2 := hid hst2
          replace hsl := hid hsl
          go_wp2_with (first
            | (go_at_call 79; refine (hss.out _ hs.has.right i hlt ep f' b hsl.out).mono ?_; rintro e w ⟨v, CB2, rfl, hby2, hs'⟩; replace hs := St.callR hs hs'; clear hs'))
          go_roundg (2 - (i + 1))
          case measure => omega
          case rel => exact ⟨i + 1, CB, by go_num, hlt, rfl, by rw [hst2.out], by rw [hst2.out], hid (by rw [hst2.out]; exact hby.out), St.dropMid (A := CB) (C := CB2) (B := C) (by rw [List.append_assoc]; exact hs)⟩
    · obtain rfl : i = 2 := by omega
      replace hs := hid hs
      go_wp2_with fail
      refine bodyPost_ret (results53 rfl rfl rfl) rfl ?_
      exact ⟨_, CB, rfl, hby, hs.out⟩

/-- the greatest epoch of a whole slot -/
def hiAt (sl : Nat → SlotV) : Nat → Nat
  | 0 => 0
  | k + 1 => match sl k with
    | some (e, _, _) => max (hiAt sl k) e
    | none => hiAt sl k
theorem hi_ep {sl : Nat → SlotV} (h : ∀ i e f' b, i < 2 → sl i = some (e, f', b) → e ≤ 1073741824) : ∀ k, k ≤ 2 → hiAt sl k ≤ 1073741824
  | 0, _ => by simp [hiAt]
  | k + 1, hk => by
    have ih := hi_ep h k (by omega)
    simp only [hiAt]
    cases hs : sl k with
    | none => exact ih
    | some x =>
      obtain ⟨e, f', b⟩ := x
      have := h k e f' b (by omega) hs
      simp only
      omega
set_option maxHeartbeats 2000000 in
set_option maxRecDepth 4000 in
theorem highest_any {w0 : World} {d : Nat} {k : Dk} {C : List (Nat × Obj)} (h : Has w0 C) (hd : Disk d k C) (hc : Calm k) :
    Calls Try.prog 51 #[.pointer (some ⟨d, 0, none⟩)] w0 fun e w' => e = .returned (.int .i64 (hiAt (slotsOf k.lasts) 2)) ∧ St w0 (keys C) C w' := by
  have hs := St.start h
  have hbd := hid (fun kk (hk : kk ≤ 2) => hi_ep (sl := slotsOf k.lasts) (fun i e f' b hi hb => slot_ep hb (hc.hd i hi).ep) kk hk)
  have hsn := hid (fun (w : World) (h : Has w C) (i : Nat) (hi : i < 2) (hr : slotsOf k.lasts i = none) => slot_none h hd hc hi hr)
  have hss := hid (fun (w : World) (h : Has w C) (i : Nat) (hi : i < 2) (ep : Nat) (f : Int) (b : List UInt8) (hr : slotsOf k.lasts i = some (ep, f, b)) => slot_some h hd hc hi hr)
  have hse := hid (fun (i : Nat) (hi : i < 2) (ep : Nat) (f : Int) (b : List UInt8) (hr : slotsOf k.lasts i = some (ep, f, b)) => slot_ep hr (hc.hd i hi).ep)
  generalize slotsOf k.lasts = sl at *
  generalize hN : hiAt sl = N at *
  have h0 : N 0 = 0 := by rw [← hN]; rfl
  have h1 : ∀ i, N (i + 1) = match sl i with
    | some (e, _, _) => max (N i) e
    | none => N i := fun i => by rw [← hN]; rfl
  replace h0 := hid h0
  replace h1 := hid h1
  replace hd := hid hd
  replace hc := hid hc
  replace hN := hid hN
  go_enter Try.func51, Try.ntmps51
  go_wp2_with fail
  go_loopg [2, 8] 2 (fun g mv iv wr => ∃ i : Nat, iv = .int .i64 i ∧ i ≤ 2 ∧ g = 2 - i ∧ mv = .int .i64 (N i) ∧ St w0 (keys C) C wr)
  case atStart => exact ⟨0, rfl, by omega, rfl, by rw [h0.out]; rfl, hs⟩
  case round =>
    clear hs
    obtain ⟨i, rfl, hi, rfl, rfl, hs⟩ := hrel
    by_cases hlt : i < 2
    · have hst := hid (h1.out i)
      have hep := hbd.out i (by omega)
      cases hsl : sl i with
      | none =>
        have hst2 : N (i + 1) = N i := by rw [hst.out, hsl]
        replace hst2 := hid hst2
        replace hsl := hid hsl
        go_wp2_with (first
          | (go_at_call 79; refine (hsn.out _ hs.has i hlt hsl.out).mono ?_; rintro e w ⟨rfl, hs'⟩; replace hs := hs.trans hs'; clear hs'))
        go_roundg (2 - (i + 1))
        case measure => omega
        case rel => exact ⟨i + 1, by go_num, hlt, rfl, by rw [hst2.out], hs⟩
      | some x =>
        obtain ⟨ep, f', b⟩ := x
        have hep2 := hse.out i hlt ep f' b hsl
        have hst2 : N (i + 1) = max (N i) ep := by rw [hst.out, hsl]
        replace hst2 := hid hst2
        replace hsl := hid hsl
        go_wp2_with (first
          | (go_at_call 79; refine (hss.out _ hs.has i hlt ep f' b hsl.out).mono ?_; rintro e w ⟨v, CB2, rfl, hby2, hs'⟩; replace hs := St.drop (A := CB2) (hs.trans hs'); clear hs'))
        go_roundg (2 - (i + 1))
        case measure => omega
        case rel => exact ⟨i + 1, by go_num, hlt, rfl, by rw [hst2.out]; congr 1; omega, hs⟩
    · obtain rfl : i = 2 := by omega
      replace hs := hid hs
      go_wp2_with fail
      go_ret
      exact ⟨rfl, hs.out⟩
theorem results30 {w : World} {v4 v5 v6 : Value} {tmps : Array Value} (t4 : tmps.getD 4 undef = v4) (t5 : tmps.getD 5 undef = v5) (t6 : tmps.getD 6 undef = v6) :
    (results Try.f30 tmps).run Try.prog w = .ok (.tuple #[v4, v5, v6]) w := by
  rw [Array.getD_eq_getD_getElem?] at t4 t5 t6
  simp [results, Try.f30, t4, t5, t6]
/-- what Load tells -/
def loadOf (f : Int) (L : List (List UInt8)) : List UInt8 × Nat × Int :=
  if (nwAt f (slotsOf L) 2).slot < 0 then ([], 0, 5) else ((nwAt f (slotsOf L) 2).b, (nwAt f (slotsOf L) 2).ep, 0)
theorem nw_slot (f : Int) (sl : Nat → SlotV) : ∀ k, (nwAt f sl k).slot = -1 ∨ (0 ≤ (nwAt f sl k).slot ∧ (nwAt f sl k).slot < k)
  | 0 => .inl rfl
  | k + 1 => by
    have ih := nw_slot f sl k
    simp only [nwAt]
    cases hs : sl k with
    | none => simp only [Nw.step]; omega
    | some x =>
      obtain ⟨e, f', b⟩ := x
      simp only [Nw.step]
      split
      · simp only; omega
      · omega
set_option maxHeartbeats 2000000 in
set_option maxRecDepth 4000 in
theorem load_any {w0 : World} {d : Nat} {k : Dk} {C : List (Nat × Obj)} {f : Int} (h : Has w0 C) (hd : Disk d k C) (hc : Calm k) (hb : (nwAt f (slotsOf k.lasts) 2).b.length ≤ 1048576) :
    Calls Try.prog 30 #[.pointer (some ⟨d, 0, none⟩), .int .u32 f] w0 fun e w' => ∃ A c, e = .returned (.tuple #[.slice A (loadOf f k.lasts).1.length c, .int .i64 (loadOf f k.lasts).2.1, .int .i64 (loadOf f k.lasts).2.2]) ∧
      Hid (∀ D : List Nat, (∀ b ∈ D, b < w0.heap.size) → Txt w' D (.slice A (loadOf f k.lasts).1.length c) (loadOf f k.lasts).1) ∧ St w0 (keys C) C w' := by
  have hs := St.start h
  have hnw := newest_any (f := f) h hd hc
  have hnb := nw_slot f (slotsOf k.lasts) 2
  have hep := nw_ep (f := f) (sl := slotsOf k.lasts) (fun i e f' b hi hb => slot_ep hb (hc.hd i hi).ep) 2 (by omega)
  unfold loadOf
  generalize nwAt f (slotsOf k.lasts) 2 = N at *
  obtain ⟨n1, e1, b1⟩ := N
  simp only at hb hnw hnb hep ⊢
  replace hnw := hid hnw
  by_cases hneg : n1 < 0
  · obtain rfl : n1 = -1 := by omega
    rw [if_pos (by decide)]
    go_enter Try.func30, Try.ntmps30
    go_wp2_with (first
      | (go_at_call 53; refine hnw.out.mono ?_; rintro e w ⟨v, CB, rfl, hby, hs'⟩; replace hs := St.drop (A := CB) (hs.trans hs'); clear hs'))
    refine bodyPost_ret (results30 rfl rfl rfl) rfl ?_
    exact ⟨none, 0, rfl, hid (fun D _ => ⟨none, 0, rfl, Nat.le_refl _, by simp [maxLen], .inl rfl⟩), hs⟩
  · rw [if_neg hneg]
    have q1 : decide (n1 < 0) = false := by simp; omega
    go_enter Try.func30, Try.ntmps30
    go_wp2_with (first
      | (go_at_call 53; refine hnw.out.mono ?_; rintro e w ⟨v, CB, rfl, hby, hs'⟩; replace hs := hs.trans hs'; clear hs')
      | (go_at_call 44; refine (clone_txt (hby.out.txt hs (fun q hq => List.mem_append_left _ hq)) (by omega)).mono ?_; rintro e w1 ⟨A, c, rfl, hT, hbl⟩; have hsz := hs.size; have hT := hid (fun (D : List Nat) (hD : ∀ b ∈ D, b < w0.heap.size) => hT D (fun b hb => Nat.lt_of_lt_of_le (hD b hb) hsz)); replace hs := St.drop (A := CB) (hs.above hbl); clear hbl hsz))
    refine bodyPost_ret (results30 rfl rfl rfl) rfl ?_
    exact ⟨A, c, rfl, hT, hs⟩
end Go.Proofs.Ytclingkhdmhhoaa

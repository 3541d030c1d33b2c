/- Plain law: headers, slots, saves and crashes, a row of saves of which a crash cuts off the last, with no program in sight. No condition. -/
import Derived.Test.YtclingkhdmhhoaaSnI
namespace Go.Proofs.Ytclingkhdmhhoaa
open Go.RowKit
set_option linter.unusedSimpArgs false
set_option linter.unusedVariables false

theorem valStep_eq {n : Int} {c : UInt8} (h0 : 0 ≤ n) (h1 : n < 72057594037927936) : valStep n c = n * 256 + c.toNat := by
  unfold valStep
  obtain ⟨m, rfl⟩ := Int.eq_ofNat_of_zero_le h0
  have hc := c.toNat_lt
  have e1 : ((m : Int) * 256 % 18446744073709551616) = ((m * 256 : Nat) : Int) := by omega
  have e2 : m * 256 ||| c.toNat = m * 256 + c.toNat := by
    have := Nat.shiftLeft_add_eq_or_of_lt (b := c.toNat) (i := 8) (by omega) m
    rw [Nat.shiftLeft_eq] at this
    exact this.symm
  show bits .or .u64 ((m : Int) * 256 % 18446744073709551616) c.toNat = _
  rw [e1, u64_or_nat (m * 256) c.toNat (by omega) (by omega), e2]
  omega
theorem valGo_num {n : Int} (h0 : 0 ≤ n) (h1 : n < 4294967296) : ∀ k, valGo (numL8 n k) (n / 2 ^ (8 * k)) = n
  | 0 => by simp [numL8, valGo]
  | k + 1 => by
    have ih := valGo_num h0 h1 k
    have hp : (2 : Int) ^ (8 * (k + 1)) = 2 ^ (8 * k) * 256 := by
      rw [show 8 * (k + 1) = 8 * k + 8 by omega, Int.pow_add]; rfl
    have hq : n / 2 ^ (8 * (k + 1)) = n / 2 ^ (8 * k) / 256 := by rw [hp, Int.ediv_ediv_of_nonneg (Int.le_of_lt (Int.pow_pos (by decide)))]
    simp only [numL8, valGo]
    have hb : 0 ≤ n / 2 ^ (8 * k) := Int.ediv_nonneg h0 (by exact Int.le_of_lt (Int.pow_pos (by decide)))
    have hb2 : n / 2 ^ (8 * k) ≤ n := Int.ediv_le_self _ h0
    rw [valStep_eq (by rw [hq]; omega) (by rw [hq]; omega), numAt_eq, hq]
    generalize n / 2 ^ (8 * k) = z at *
    have e : z / 256 * 256 + z % 256 = z := by omega
    rw [e]; exact ih
theorem num8 {n : Int} (h0 : 0 ≤ n) (h1 : n < 4294967296) : valGo (numL8 n 8) 0 = n := by
  have h := valGo_num h0 h1 8
  have e : n / 2 ^ (8 * 8) = 0 := Int.ediv_eq_zero_of_lt h0 (Int.lt_trans h1 (by decide))
  rw [e] at h; exact h
theorem num4 {n : Int} (h0 : 0 ≤ n) (h1 : n < 4294967296) : valGo (numL8 n 4) 0 = n := by
  have h := valGo_num h0 h1 4
  have e : n / 2 ^ (8 * 4) = 0 := Int.ediv_eq_zero_of_lt h0 (Int.lt_of_lt_of_le h1 (by decide))
  rw [e] at h; exact h
theorem headL_parts (e f : Int) (b : List UInt8) : ((headL e f b).drop 5).take 8 = numL8 e 8 ∧ ((headL e f b).drop 13).take 8 = numL8 b.length 8 ∧ ((headL e f b).drop 21).take 4 = numL8 f 4 ∧ (headL e f b)[63]? = some (numAt e 0) :=
  ⟨rfl, rfl, rfl, rfl⟩
theorem hEp_head {e : Nat} (f : Int) (b : List UInt8) (h : e < 4294967296) : hEp (headL e f b) = e := by
  unfold hEp; rw [(headL_parts e f b).1]; exact num8 (by omega) (by omega)
theorem hSz_head (e f : Int) {b : List UInt8} (h : b.length < 4294967296) : hSz (headL e f b) = b.length := by
  unfold hSz; rw [(headL_parts e f b).2.1]; exact num8 (by omega) (by omega)
theorem hFo_head (e : Int) {f : Int} (b : List UInt8) (h0 : 0 ≤ f) (h1 : f < 4294967296) : hFo (headL e f b) = f := by
  unfold hFo; rw [(headL_parts e f b).2.2.1]; exact num4 h0 h1

/-- a header whose numbers have at most two bytes -/
structure Small (h : List UInt8) : Prop where
  len : h.length = 64
  e : ∀ i, 5 ≤ i → i < 11 → h[i]? = some 0
  s : ∀ i, 13 ≤ i → i < 19 → h[i]? = some 0
theorem mix_get {a b : List UInt8} (ha : a.length = 64) (hb : b.length = 64) {n : Nat} (hn : n ≤ 64) (i : Nat) : (a.take n ++ b.drop n)[i]? = if i < n then a[i]? else b[i]? := by
  have hl : (a.take n).length = n := by rw [List.length_take]; omega
  split
  · rename_i h
    rw [List.getElem?_append_left (by omega), List.getElem?_take, if_pos h]
  · rename_i h
    rw [List.getElem?_append_right (by omega), hl, List.getElem?_drop]
    congr 1; omega
theorem Small.mix {a b : List UInt8} (ha : Small a) (hb : Small b) {n : Nat} (hn : n ≤ 64) : Small (a.take n ++ b.drop n) := by
  refine ⟨by rw [List.length_append, List.length_take, List.length_drop, ha.len, hb.len]; omega, fun i h1 h2 => ?_, fun i h1 h2 => ?_⟩
  · rw [mix_get ha.len hb.len hn]; split
    · exact ha.e i h1 h2
    · exact hb.e i h1 h2
  · rw [mix_get ha.len hb.len hn]; split
    · exact ha.s i h1 h2
    · exact hb.s i h1 h2
theorem eight {h : List UInt8} {o : Nat} {x y : UInt8} (h0 : ∀ i, o ≤ i → i < o + 6 → h[i]? = some 0) (h6 : h[o + 6]? = some x) (h7 : h[o + 7]? = some y) : (h.drop o).take 8 = [0, 0, 0, 0, 0, 0, x, y] := by
  apply List.ext_getElem?
  intro i
  rw [List.getElem?_take]
  split
  · rename_i hi
    rw [List.getElem?_drop]
    match i, hi with
    | 0, _ => exact h0 _ (by omega) (by omega)
    | 1, _ => exact h0 _ (by omega) (by omega)
    | 2, _ => exact h0 _ (by omega) (by omega)
    | 3, _ => exact h0 _ (by omega) (by omega)
    | 4, _ => exact h0 _ (by omega) (by omega)
    | 5, _ => exact h0 _ (by omega) (by omega)
    | 6, _ => exact h6
    | 7, _ => exact h7
    | i + 8, hi => omega
  · rename_i hi
    rw [List.getElem?_eq_none (by simp; omega)]
theorem val_eight (x y : UInt8) : valGo [0, 0, 0, 0, 0, 0, x, y] 0 = (x.toNat : Int) * 256 + y.toNat := by
  have hx := x.toNat_lt
  have e0 : valStep 0 0 = 0 := by rw [valStep_eq (by decide) (by decide)]; rfl
  have e1 : valStep 0 x = x.toNat := by rw [valStep_eq (by decide) (by decide)]; omega
  simp only [valGo, e0, e1]
  rw [valStep_eq (by omega) (by omega)]
theorem get_lt {h : List UInt8} (hl : h.length = 64) {i : Nat} (hi : i < 64) : ∃ x, h[i]? = some x := ⟨_, List.getElem?_eq_getElem (by omega)⟩
theorem Small.ep {h : List UInt8} (hs : Small h) {x y : UInt8} (hx : h[11]? = some x) (hy : h[12]? = some y) : hEp h = (x.toNat : Int) * 256 + y.toNat := by
  unfold hEp; rw [eight (fun i h1 h2 => hs.e i h1 (by omega)) hx hy, val_eight]
theorem Small.sz {h : List UInt8} (hs : Small h) {x y : UInt8} (hx : h[19]? = some x) (hy : h[20]? = some y) : hSz h = (x.toNat : Int) * 256 + y.toNat := by
  unfold hSz; rw [eight (fun i h1 h2 => hs.s i h1 (by omega)) hx hy, val_eight]
theorem val_four : ∀ (l : List UInt8), l.length = 4 → 0 ≤ valGo l 0 ∧ valGo l 0 < 4294967296
  | [a, b, c, d], _ => by
    have ha := a.toNat_lt
    have hb := b.toNat_lt
    have hc := c.toNat_lt
    have hd := d.toNat_lt
    simp only [valGo]
    have e1 : valStep 0 a = a.toNat := by rw [valStep_eq (by decide) (by decide)]; omega
    rw [e1]
    have e2 : valStep (a.toNat : Int) b = (a.toNat : Int) * 256 + b.toNat := valStep_eq (by omega) (by omega)
    rw [e2]
    have e3 : valStep ((a.toNat : Int) * 256 + b.toNat) c = ((a.toNat : Int) * 256 + b.toNat) * 256 + c.toNat := valStep_eq (by omega) (by omega)
    rw [e3, valStep_eq (by omega) (by omega)]
    omega
theorem Small.ok {h : List UInt8} (hs : Small h) : HdOk h := by
  obtain ⟨x1, h1⟩ := get_lt hs.len (show 11 < 64 by decide)
  obtain ⟨y1, h2⟩ := get_lt hs.len (show 12 < 64 by decide)
  obtain ⟨x2, h3⟩ := get_lt hs.len (show 19 < 64 by decide)
  obtain ⟨y2, h4⟩ := get_lt hs.len (show 20 < 64 by decide)
  have e1 := hs.ep h1 h2
  have e2 := hs.sz h3 h4
  have := x1.toNat_lt
  have := y1.toNat_lt
  have := x2.toNat_lt
  have := y2.toNat_lt
  have h4 := val_four ((h.drop 21).take 4) (by rw [List.length_take, List.length_drop, hs.len]; decide)
  exact ⟨hs.len, by omega, by omega, by omega, by omega, h4.1, h4.2⟩
theorem small_nought : Small nought := ⟨by simp [nought], fun i h1 h2 => by rw [nought, List.getElem?_replicate, if_pos (by omega)], fun i h1 h2 => by rw [nought, List.getElem?_replicate, if_pos (by omega)]⟩
theorem numAt_zero {n : Int} {i : Nat} (h0 : 0 ≤ n) (h1 : n < 2 ^ (8 * i)) : numAt n i = 0 := by
  unfold numAt; rw [Int.ediv_eq_zero_of_lt h0 h1]; rfl
theorem lt_pow {n : Int} {m : Nat} (hn : n ≤ 65535) (hm : 16 ≤ m) : n < 2 ^ m := by
  have h := Nat.pow_le_pow_right (n := 2) (by decide) hm
  have e : ((2 ^ m : Nat) : Int) = 2 ^ m := by rw [Int.natCast_pow]; rfl
  rw [← e]
  have e2 : 2 ^ 16 = 65536 := by decide
  omega
theorem numL8_get (n : Int) : ∀ (k i : Nat), i < k → (numL8 n k)[i]? = some (numAt n (k - 1 - i))
  | k + 1, 0, _ => rfl
  | k + 1, i + 1, h => by
    have := numL8_get n k i (by omega)
    simp only [numL8, List.getElem?_cons_succ]
    rw [this]; congr 2; omega
theorem small_head {e : Nat} {f : Int} {b : List UInt8} (he : e ≤ 65535) (hb : b.length ≤ 65535) : Small (headL e f b) := by
  obtain ⟨p1, p2, p3, p4⟩ := headL_parts e f b
  refine ⟨headL_len _ _ _, fun i h1 h2 => ?_, fun i h1 h2 => ?_⟩
  · have e1 : (headL e f b)[i]? = (((headL e f b).drop 5).take 8)[i - 5]? := by rw [List.getElem?_take, if_pos (by omega), List.getElem?_drop]; congr 1; omega
    rw [e1, p1, numL8_get _ _ _ (by omega), numAt_zero (by omega)]
    exact lt_pow (m := 8 * (8 - 1 - (i - 5))) (by omega) (by omega)
  · have e1 : (headL e f b)[i]? = (((headL e f b).drop 13).take 8)[i - 13]? := by rw [List.getElem?_take, if_pos (by omega), List.getElem?_drop]; congr 1; omega
    rw [e1, p2, numL8_get _ _ _ (by omega), numAt_zero (by omega)]
    exact lt_pow (m := 8 * (8 - 1 - (i - 13))) (by omega) (by omega)

theorem data_eq {L L' : List (List UInt8)} {base sp : Nat} (hsp : 1 ≤ sp) (h : ∀ j, j < sp → L'[base + j]? = L[base + j]?) : (L'.drop (base + 1)).take (sp - 1) = (L.drop (base + 1)).take (sp - 1) := by
  apply List.ext_getElem?
  intro i
  rw [List.getElem?_take, List.getElem?_take]
  split
  · rename_i hi
    rw [List.getElem?_drop, List.getElem?_drop]
    have := h (i + 1) (by omega)
    rw [show base + 1 + i = base + (i + 1) by omega]; exact this
  · rfl
theorem slot_congr {L L' : List (List UInt8)} {base sp : Nat} (hsp : 1 ≤ sp) (hl : base + sp ≤ L.length) (hS : Sec L) (hS' : Sec L') (hlen : L'.length = L.length) (h : ∀ j, j < sp → L'[base + j]? = L[base + j]?) :
    slotOf L' base ((sp - 1) * 64) = slotOf L base ((sp - 1) * 64) := by
  have hg : L'.getD base [] = L.getD base [] := by
    have := h 0 hsp
    rw [Nat.add_zero] at this
    simp [List.getD, this]
  have hd := data_eq hsp h
  unfold slotOf
  rw [hg]
  dsimp only
  split
  · rfl
  · rename_i hn
    have hz : (hSz (L.getD base [])).toNat ≤ (sp - 1) * 64 := by omega
    rw [take_flat (M := L'.drop (base + 1)) (i := sp - 1) (by rw [secs_len hS' (by omega)]; exact hz), take_flat (M := L.drop (base + 1)) (i := sp - 1) (by rw [secs_len hS (by omega)]; exact hz), hd]
theorem parts_all : ∀ (R : Nat) (b : List UInt8), b.length ≤ R * 64 → (((List.range R).map fun i => padS (partAt b i)).flatten).take b.length = b
  | 0, b, h => by
    have : b = [] := List.eq_nil_of_length_eq_zero (by omega)
    subst this; rfl
  | R + 1, b, h => by
    have ih := parts_all R (b.drop 64) (by rw [List.length_drop]; omega)
    rw [List.range_succ_eq_map, List.map_cons, List.flatten_cons, List.map_map]
    have e1 : ((fun i => padS (partAt b i)) ∘ Nat.succ) = fun i => padS (partAt (b.drop 64) i) := by
      funext i
      simp only [Function.comp, partAt, List.drop_drop]
      congr 3; omega
    rw [e1]
    have e0 : partAt b 0 = b.take 64 := by simp [partAt]
    rw [e0]
    by_cases hb : 64 ≤ b.length
    · have hp : padS (b.take 64) = b.take 64 := by
        unfold padS
        have : (b.take 64).length = 64 := by rw [List.length_take]; omega
        rw [this]; simp
      rw [hp]
      have hl : (b.take 64).length = 64 := by rw [List.length_take]; omega
      rw [List.take_append, hl, List.take_of_length_le (l := b.take 64) (by omega)]
      rw [List.length_drop] at ih
      rw [ih, List.take_append_drop]
    · have ht : b.take 64 = b := List.take_of_length_le (by omega)
      rw [ht]
      unfold padS
      rw [List.append_assoc, List.take_append_of_le_length (Nat.le_refl _), List.take_of_length_le (Nat.le_refl _)]
theorem partsN_le {b : List UInt8} {sp : Nat} (h : b.length ≤ (sp - 1) * 64) : partsN b ≤ sp - 1 := by unfold partsN; omega
theorem slot_full {L : List (List UInt8)} {base sp e : Nat} {f : Int} {b : List UInt8} (hS : Sec L) (hl : base + sp ≤ L.length) (hsp : 1 ≤ sp) (hb : b.length ≤ (sp - 1) * 64) (hb2 : b.length ≤ 65535) (he : 1 ≤ e) (he2 : e ≤ 65535) (hf0 : 0 ≤ f) (hf1 : f < 4294967296)
    (hh : L[base]? = some (headL e f b)) (hd : ∀ i, i < partsN b → L[base + 1 + i]? = some (padS (partAt b i))) : slotOf L base ((sp - 1) * 64) = some (e, f, b) := by
  have hg : L.getD base [] = headL e f b := by simp [List.getD, hh]
  have hpn := partsN_le hb
  unfold slotOf
  rw [hg]
  dsimp only
  rw [hEp_head f b (by omega), hSz_head _ _ (by omega), hFo_head _ _ hf0 hf1]
  have hdt : (L.drop (base + 1)).take (partsN b) = (List.range (partsN b)).map fun i => padS (partAt b i) := by
    apply List.ext_getElem?
    intro i
    rw [List.getElem?_take, List.getElem?_map]
    split
    · rename_i hi
      rw [List.getElem?_drop, hd i hi, List.getElem?_range hi]; rfl
    · rename_i hi
      rw [List.getElem?_eq_none (by simpa using hi)]; rfl
  have hbe : ((L.drop (base + 1)).flatten).take b.length = b := by
    rw [take_flat (i := partsN b) (by rw [secs_len hS (by omega)]; unfold partsN; omega), hdt]
    exact parts_all _ _ (by unfold partsN; omega)
  rw [if_neg (by omega), Int.toNat_natCast, hbe, if_pos rfl, Int.toNat_natCast]
theorem slot_val {L : List (List UInt8)} {base room e : Nat} {f : Int} {b : List UInt8} (h : slotOf L base room = some (e, f, b)) : hEp (L.getD base []) = e ∧ 1 ≤ e ∧ headL (hEp (L.getD base [])) (hFo (L.getD base [])) b = L.getD base [] := by
  unfold slotOf at h
  dsimp only at h
  split at h
  · cases h
  · rename_i hn
    split at h
    · rename_i hq
      simp only [Option.some.injEq, Prod.mk.injEq] at h
      obtain ⟨h1, h2, h3⟩ := h
      rw [h3] at hq
      exact ⟨by omega, by omega, hq⟩
    · cases h

def bsOf (sp i : Nat) : Nat := if i = 0 then 0 else sp
/-- what the slots of these sectors tell behind m saves: the last one had the bytes b -/
structure Inv (L : List (List UInt8)) (sp m : Nat) (b : List UInt8) : Prop where
  sp2 : 2 ≤ sp
  half : L.length / 2 = sp
  le : L.length ≤ 1024
  sec : Sec L
  small : ∀ i, i < 2 → Small (L.getD (bsOf sp i) [])
  cur : (m = 0 ∧ b = [] ∧ ∀ i, i < 2 → slotOf L (bsOf sp i) ((sp - 1) * 64) = none) ∨
    (1 ≤ m ∧ ∃ s, s < 2 ∧ slotOf L (bsOf sp s) ((sp - 1) * 64) = some (m, 7, b) ∧ ∀ e f' b', slotOf L (bsOf sp (1 - s)) ((sp - 1) * 64) = some (e, f', b') → e < m)
/-- the headers' numbers aren't above m -/
structure Str (L : List (List UInt8)) (sp m : Nat) : Prop where
  ep : ∀ i, i < 2 → hEp (L.getD (bsOf sp i) []) ≤ m
  last : ∀ i, i < 2 → ∀ x, (L.getD (bsOf sp i) [])[63]? = some x → x.toNat ≤ m
theorem Inv.slots {L : List (List UInt8)} {sp m : Nat} {b : List UInt8} (h : Inv L sp m b) (i : Nat) : slotsOf L i = slotOf L (bsOf sp i) ((sp - 1) * 64) := by
  unfold slotsOf baseOf roomN bsOf
  rw [h.half]
theorem Inv.calm {k : Dk} {sp m : Nat} {b : List UInt8} (h : Inv k.lasts sp m b) (hl : k.later = []) : Calm k := by
  have h2 := h.half
  have h3 := h.sp2
  refine ⟨hl, by omega, h.le, fun i hi => ?_⟩
  have := (h.small i hi).ok
  unfold baseOf
  rw [h.half]
  exact this
/-- the slot that is written next -/
def tgtOf (s : Int) : Nat := if s = 0 then 1 else 0
def tgt (L : List (List UInt8)) : Nat := tgtOf (nwAt 7 (slotsOf L) 2).slot
theorem tgt_lt (L : List (List UInt8)) : tgt L < 2 := by unfold tgt tgtOf; split <;> omega
theorem Inv.told {L : List (List UInt8)} {sp m : Nat} {b : List UInt8} (h : Inv L sp m b) :
    (nwAt 7 (slotsOf L) 2).ep = m ∧ (nwAt 7 (slotsOf L) 2).b = b ∧ ((nwAt 7 (slotsOf L) 2).slot < 0 ↔ m = 0) ∧ hiAt (slotsOf L) 2 = m ∧
      (1 ≤ m → slotOf L (bsOf sp (1 - tgt L)) ((sp - 1) * 64) = some (m, 7, b)) ∧ (m = 0 → slotOf L (bsOf sp (1 - tgt L)) ((sp - 1) * 64) = none) := by
  have h0 := h.slots 0
  have h1 := h.slots 1
  unfold tgt
  obtain ⟨N, hN⟩ : ∃ N, nwAt 7 (slotsOf L) 2 = N := ⟨_, rfl⟩
  obtain ⟨HI, hHI⟩ : ∃ HI, hiAt (slotsOf L) 2 = HI := ⟨_, rfl⟩
  rw [hN, hHI]
  have hN2 : Nw.step 7 (Nw.step 7 ⟨-1, 0, []⟩ 0 (slotsOf L 0)) 1 (slotsOf L 1) = N := hN
  have hHI2 : (match slotsOf L 1 with
    | some (e, _, _) => max (match slotsOf L 0 with
      | some (e, _, _) => max 0 e
      | none => 0) e
    | none => (match slotsOf L 0 with
      | some (e, _, _) => max 0 e
      | none => 0)) = HI := hHI
  rw [h0, h1] at hN2 hHI2
  clear hN hHI h0 h1
  rcases h.cur with ⟨rfl, rfl, hn⟩ | ⟨hm, s, hs, hsl, hot⟩
  · rw [hn 0 (by omega), hn 1 (by omega)] at hN2 hHI2
    have hNe : N = ⟨-1, 0, []⟩ := hN2.symm
    have hHe : HI = 0 := hHI2.symm
    subst hNe hHe
    exact ⟨rfl, rfl, by simp, rfl, fun h => by omega, fun _ => hn 1 (by omega)⟩
  · match s, hs with
    | 0, _ =>
      have hst : Nw.step 7 ⟨-1, 0, []⟩ 0 (some (m, 7, b)) = ⟨((0 : Nat) : Int), m, b⟩ := by unfold Nw.step; simp only; rw [if_pos ⟨trivial, by omega⟩]
      have hst2 : Nw.step 7 ⟨((0 : Nat) : Int), m, b⟩ 1 (slotOf L (bsOf sp 1) ((sp - 1) * 64)) = ⟨((0 : Nat) : Int), m, b⟩ := by
        cases h1s : slotOf L (bsOf sp 1) ((sp - 1) * 64) with
        | none => rfl
        | some x =>
          obtain ⟨e, f', b'⟩ := x
          have := hot e f' b' h1s
          unfold Nw.step; simp only; rw [if_neg (by omega)]
      have hHe : HI = m := by
        rw [← hHI2, hsl]
        cases h1s : slotOf L (bsOf sp 1) ((sp - 1) * 64) with
        | none => simp only; omega
        | some x =>
          obtain ⟨e, f', b'⟩ := x
          have := hot e f' b' h1s
          simp only; omega
      rw [hsl, hst, hst2] at hN2
      subst hN2
      exact ⟨rfl, rfl, by simp only; omega, hHe, fun _ => hsl, fun h => by omega⟩
    | 1, _ =>
      have hst : Nw.step 7 (Nw.step 7 ⟨-1, 0, []⟩ 0 (slotOf L (bsOf sp 0) ((sp - 1) * 64))) 1 (some (m, 7, b)) = ⟨((1 : Nat) : Int), m, b⟩ := by
        cases h0s : slotOf L (bsOf sp 0) ((sp - 1) * 64) with
        | none => unfold Nw.step; simp only; rw [if_pos ⟨trivial, by omega⟩]
        | some x =>
          obtain ⟨e, f', b'⟩ := x
          have hlt := hot e f' b' h0s
          unfold Nw.step; simp only
          split
          · rw [if_pos ⟨trivial, hlt⟩]
          · rw [if_pos ⟨trivial, by show 0 < m; omega⟩]
      have hHe : HI = m := by
        rw [← hHI2, hsl]
        cases h0s : slotOf L (bsOf sp 0) ((sp - 1) * 64) with
        | none => simp only; omega
        | some x =>
          obtain ⟨e, f', b'⟩ := x
          have := hot e f' b' h0s
          simp only; omega
      rw [hsl, hst] at hN2
      subst hN2
      exact ⟨rfl, rfl, by simp only; omega, hHe, fun _ => hsl, fun h => by omega⟩

/-- the first parts' writes -/
def wrL (base : Nat) (b : List UInt8) (q : Nat) : List (Nat × List UInt8) := (List.range q).map fun j => (base + 1 + j, padS (partAt b j))
theorem wrL_snoc (base : Nat) (b : List UInt8) (q : Nat) : wrL base b (q + 1) = wrL base b q ++ [(base + 1 + q, padS (partAt b q))] := by simp [wrL, List.range_succ]
theorem wrL_len (base : Nat) (b : List UInt8) (q : Nat) : (wrL base b q).length = q := by simp [wrL]
theorem part_len (b : List UInt8) (i : Nat) : (padS (partAt b i)).length = 64 := padS_len (by simp [partAt]; omega)
theorem wr_state {k : Dk} (hq : k.later = []) {base : Nat} {b : List UInt8} : ∀ i, base + 1 + i ≤ k.lasts.length →
    (wrTo k base b i).lasts = k.lasts ∧ (wrTo k base b i).stop = k.stop ∧ ∃ q, q ≤ i ∧ (wrTo k base b i).later = wrL base b q ∧ (wrTo k base b i).ops = k.ops + q ∧ (q = i ∨ (wrTo k base b i).dead = true)
  | 0, _ => ⟨rfl, rfl, 0, Nat.le_refl _, by simp [wrTo, hq, wrL], by simp [wrTo], .inl rfl⟩
  | i + 1, h => by
    obtain ⟨h1, h2, q, h3, h4, h5, h6⟩ := wr_state hq (base := base) (b := b) i (by omega)
    simp only [wrTo]
    generalize wrTo k base b i = K at *
    cases hd : K.dead with
    | true =>
      have e : K.write ((base + 1 + i : Nat) : Int) (padS (partAt b i)) = K := by simp [Dk.write, hd]
      rw [e]
      exact ⟨h1, h2, q, by omega, h4, h5, .inr hd⟩
    | false =>
      have hqi : q = i := by
        rcases h6 with h6 | h6
        · exact h6
        · rw [hd] at h6; cases h6
      subst hqi
      have ht : K.there ((base + 1 + q : Nat) : Int) = true := by simp [Dk.there, h1]; omega
      have e : K.write ((base + 1 + q : Nat) : Int) (padS (partAt b q)) = { K with ops := K.ops + 1, later := K.later ++ [(base + 1 + q, padS (partAt b q))] } := by
        unfold Dk.write; rw [if_pos ⟨ht, hd⟩, Int.toNat_natCast]
      rw [e]
      exact ⟨h1, h2, q + 1, Nat.le_refl _, by simp only; rw [h4, wrL_snoc], by simp only; omega, .inl rfl⟩
/-- writes into sectors from lo up to hi leave the others -/
theorem settle_out (f : Nat → Nat) {lo hi : Nat} : ∀ (ws : List (Nat × List UInt8)) (i : Nat) (L : List (List UInt8)), (∀ p ∈ ws, lo ≤ p.1 ∧ p.1 < hi) → ∀ a, (a < lo ∨ hi ≤ a) → (settleM f i ws L)[a]? = L[a]?
  | [], i, L, _, a, _ => rfl
  | p :: ws, i, L, h, a, ha => by
    simp only [settleM]
    rw [settle_out f ws (i + 1) _ (fun q hq => h q (by simp [hq])) a ha]
    have := h p (by simp)
    unfold put1
    rw [List.getElem?_set_ne (by omega)]
theorem wrL_in (base : Nat) (b : List UInt8) (q : Nat) : ∀ p ∈ wrL base b q, base + 1 ≤ p.1 ∧ p.1 < base + 1 + q := by
  intro p hp
  obtain ⟨j, hj, rfl⟩ := List.mem_map.1 hp
  have := List.mem_range.1 hj
  simp only; omega
theorem wrL_wrs {base n q : Nat} {b : List UInt8} (h : base + 1 + q ≤ n) : Wrs n (wrL base b q) := by
  intro p hp
  have h1 := wrL_in base b q p hp
  obtain ⟨j, hj, rfl⟩ := List.mem_map.1 hp
  exact ⟨by simp only at h1 ⊢; omega, part_len _ _⟩
/-- all parts last -/
def laid (L : List (List UInt8)) (base : Nat) (b : List UInt8) (q : Nat) : List (List UInt8) := settleM (fun _ => 64) 0 (wrL base b q) L
theorem laid_sec {L : List (List UInt8)} {base q : Nat} {b : List UInt8} (hS : Sec L) (h : base + 1 + q ≤ L.length) : Sec (laid L base b q) ∧ (laid L base b q).length = L.length :=
  settleM_ok (fun _ => Nat.le_refl _) _ _ _ hS (wrL_wrs h)
theorem laid_get {L : List (List UInt8)} {base : Nat} {b : List UInt8} (hS : Sec L) : ∀ q, base + 1 + q ≤ L.length → ∀ j, j < q → (laid L base b q)[base + 1 + j]? = some (padS (partAt b j))
  | q + 1, h, j, hj => by
    have hs := laid_sec (b := b) hS (show base + 1 + q ≤ L.length by omega)
    have ih := laid_get (base := base) (b := b) hS q (by omega)
    unfold laid at *
    rw [wrL_snoc, settleM_snoc, put1_all hs.1 (by rw [hs.2]; simp only; omega) (part_len _ _)]
    simp only
    rcases Nat.lt_or_ge j q with hlt | hge
    · rw [List.getElem?_set_ne (by omega)]; exact ih j hlt
    · obtain rfl : j = q := by omega
      rw [List.getElem?_set_self (by rw [hs.2]; omega)]
/-- what a save leaves: H the header, R the parts -/
inductive Left (k : Dk) (base : Nat) (b H : List UInt8) (R : Nat) (k2 : Dk) : Prop
  | data (q : Nat) (hq : q ≤ R) (h1 : k2.lasts = k.lasts) (h2 : k2.later = wrL base b q) (hd : k2.dead = true)
  | flushed (h1 : k2.lasts = laid k.lasts base b R) (h2 : k2.later = []) (hd : k2.dead = true)
  | headed (h1 : k2.lasts = laid k.lasts base b R) (h2 : k2.later = [(base, H)]) (hd : k2.dead = true)
  | whole (h1 : k2.lasts = (laid k.lasts base b R).set base H) (h2 : k2.later = [])
theorem save_left {k : Dk} (hq : k.later = []) (hS : Sec k.lasts) {base R : Nat} {b H : List UInt8} (hH : H.length = 64) (hl : base + 1 + R ≤ k.lasts.length) :
    Left k base b H R (((wrTo k base b R).flush).write (base : Int) H).flush ∧ (((wrTo k base b R).flush).write (base : Int) H).flush.stop = k.stop ∧ k.ops ≤ (((wrTo k base b R).flush).write (base : Int) H).flush.ops ∧ (((wrTo k base b R).flush).write (base : Int) H).flush.ops ≤ k.ops + R + 3 := by
  obtain ⟨h1, h2, q, h3, h4, h5, h6⟩ := wr_state hq (base := base) (b := b) R hl
  generalize wrTo k base b R = K at *
  cases hd : K.dead with
  | true =>
    have e1 : K.flush = K := by simp [Dk.flush, hd]
    have e2 : K.write (base : Int) H = K := by simp [Dk.write, hd]
    rw [e1, e2, e1]
    exact ⟨.data q h3 h1 h4 hd, h2, by omega, by omega⟩
  | false =>
    have hqR : q = R := by
      rcases h6 with h6 | h6
      · exact h6
      · rw [hd] at h6; cases h6
    subst hqR
    have e1 : K.flush = { K with ops := K.ops + 1, lasts := laid k.lasts base b q, later := [] } := by
      unfold Dk.flush; rw [if_neg (by rw [hd]; decide)]
      simp only [Dk.settled, h4, h1, laid]
    rw [e1]
    obtain ⟨hS1, hl1⟩ := laid_sec (b := b) hS hl
    generalize hK1 : ({ K with ops := K.ops + 1, lasts := laid k.lasts base b q, later := [] } : Dk) = K1
    have a1 : K1.lasts = laid k.lasts base b q := by rw [← hK1]
    have a2 : K1.later = [] := by rw [← hK1]
    have a3 : K1.stop = k.stop := by rw [← hK1]; exact h2
    have a4 : K1.ops = k.ops + q + 1 := by rw [← hK1]; simp only; omega
    cases hd1 : K1.dead with
    | true =>
      have e2 : K1.write (base : Int) H = K1 := by simp [Dk.write, hd1]
      have e3 : K1.flush = K1 := by simp [Dk.flush, hd1]
      rw [e2, e3]
      exact ⟨.flushed a1 a2 hd1, a3, by omega, by omega⟩
    | false =>
      have ht : K1.there (base : Int) = true := by simp [Dk.there, a1, hl1]; omega
      have e2 : K1.write (base : Int) H = { K1 with ops := K1.ops + 1, later := [(base, H)] } := by
        unfold Dk.write; rw [if_pos ⟨ht, hd1⟩, Int.toNat_natCast, a2]; rfl
      rw [e2]
      generalize hK2 : ({ K1 with ops := K1.ops + 1, later := [(base, H)] } : Dk) = K2
      have c1 : K2.lasts = laid k.lasts base b q := by rw [← hK2]; exact a1
      have c2 : K2.later = [(base, H)] := by rw [← hK2]
      have c3 : K2.stop = k.stop := by rw [← hK2]; exact a3
      have c4 : K2.ops = k.ops + q + 2 := by rw [← hK2]; simp only; omega
      cases hd2 : K2.dead with
      | true =>
        have e3 : K2.flush = K2 := by simp [Dk.flush, hd2]
        rw [e3]
        exact ⟨.headed c1 c2 hd2, c3, by omega, by omega⟩
      | false =>
        have e3 : K2.flush = { K2 with ops := K2.ops + 1, lasts := (laid k.lasts base b q).set base H, later := [] } := by
          unfold Dk.flush; rw [if_neg (by rw [hd2]; decide)]
          simp only [Dk.settled, c2, c1, settleM]
          rw [put1_all hS1 (by rw [hl1]; simp only; omega) hH]
        rw [e3]
        exact ⟨.whole rfl rfl, c3, by simp only; omega, by simp only; omega⟩

theorem bs_le (sp i : Nat) : bsOf sp i = 0 ∨ bsOf sp i = sp := by unfold bsOf; split; exact .inl rfl; exact .inr rfl
theorem bs_apart {sp i j : Nat} (hi : i < 2) : ∀ a, a < sp → (bsOf sp (1 - i) + a < bsOf sp i ∨ bsOf sp i + sp ≤ bsOf sp (1 - i) + a) := by
  intro a ha
  match i, hi with
  | 0, _ => simp [bsOf] <;> omega
  | 1, _ => simp [bsOf] <;> omega
theorem bs_room {L : List (List UInt8)} {sp : Nat} (h : L.length / 2 = sp) (i : Nat) : bsOf sp i + sp ≤ L.length := by
  rcases bs_le sp i with e | e <;> rw [e] <;> omega
/-- sectors that differ in the slot t alone -/
structure But (L L' : List (List UInt8)) (sp t : Nat) : Prop where
  len : L'.length = L.length
  sec : Sec L'
  out : ∀ a, (a < bsOf sp t ∨ bsOf sp t + sp ≤ a) → L'[a]? = L[a]?
theorem But.other {L L' : List (List UInt8)} {sp t m : Nat} {b : List UInt8} (h : But L L' sp t) (hI : Inv L sp m b) (ht : t < 2) :
    slotOf L' (bsOf sp (1 - t)) ((sp - 1) * 64) = slotOf L (bsOf sp (1 - t)) ((sp - 1) * 64) ∧ L'.getD (bsOf sp (1 - t)) [] = L.getD (bsOf sp (1 - t)) [] := by
  have h2 := hI.sp2
  have hj : ∀ j, j < sp → L'[bsOf sp (1 - t) + j]? = L[bsOf sp (1 - t) + j]? := fun j hj => h.out _ (bs_apart (j := 0) ht j hj)
  refine ⟨slot_congr (by omega) (bs_room hI.half _) hI.sec h.sec h.len hj, ?_⟩
  have := hj 0 (by omega)
  rw [Nat.add_zero] at this
  simp [List.getD, this]
theorem two_cases {t : Nat} (ht : t < 2) {P : Nat → Prop} (h1 : P t) (h2 : P (1 - t)) : ∀ i, i < 2 → P i := by
  intro i hi
  by_cases e : i = t
  · rw [e]; exact h1
  · have : i = 1 - t := by omega
    rw [this]; exact h2
/-- the slot written next is torn: all is as it was -/
theorem Inv.torn {L L' : List (List UInt8)} {sp m : Nat} {b : List UInt8} (hI : Inv L sp m b) (h : But L L' sp (tgt L)) (hs : Small (L'.getD (bsOf sp (tgt L)) []))
    (ho : ∀ e f b', slotOf L' (bsOf sp (tgt L)) ((sp - 1) * 64) = some (e, f, b') → e < m) : Inv L' sp m b := by
  have ht := tgt_lt L
  obtain ⟨t1, t2, t3, t4, t5, t6⟩ := hI.told
  obtain ⟨o1, o2⟩ := h.other hI ht
  generalize tgt L = t at *
  refine ⟨hI.sp2, by rw [h.len]; exact hI.half, by rw [h.len]; exact hI.le, h.sec, two_cases ht hs (by rw [o2]; exact hI.small _ (by omega)), ?_⟩
  rcases Nat.eq_zero_or_pos m with hm | hm
  · left
    refine ⟨hm, ?_, two_cases ht ?_ (by rw [o1]; exact t6 hm)⟩
    · rcases hI.cur with hc | hc
      · exact hc.2.1
      · omega
    · cases hq : slotOf L' (bsOf sp t) ((sp - 1) * 64) with
      | none => rfl
      | some x => have := ho x.1 x.2.1 x.2.2 hq; omega
  · right
    refine ⟨hm, 1 - t, by omega, by rw [o1]; exact t5 hm, ?_⟩
    rw [show 1 - (1 - t) = t by omega]; exact ho
/-- the slot written next is whole: it is the one that is loaded -/
theorem Inv.next {L L' : List (List UInt8)} {sp m : Nat} {b b' : List UInt8} (hI : Inv L sp m b) (h : But L L' sp (tgt L)) (hm : m + 1 ≤ 255) (hb : b'.length ≤ (sp - 1) * 64)
    (hh : L'[bsOf sp (tgt L)]? = some (headL ((m + 1 : Nat) : Int) 7 b')) (hd : ∀ i, i < partsN b' → L'[bsOf sp (tgt L) + 1 + i]? = some (padS (partAt b' i))) : Inv L' sp (m + 1) b' := by
  have ht := tgt_lt L
  obtain ⟨t1, t2, t3, t4, t5, t6⟩ := hI.told
  obtain ⟨o1, o2⟩ := h.other hI ht
  have h2 := hI.sp2
  have hle := hI.le
  have hhf := hI.half
  generalize tgt L = t at *
  have hbb : b'.length ≤ 65535 := by
    have : (sp - 1) * 64 ≤ 512 * 64 := Nat.mul_le_mul_right _ (by omega)
    omega
  refine ⟨hI.sp2, by rw [h.len]; exact hI.half, by rw [h.len]; exact hI.le, h.sec, two_cases ht ?_ (by rw [o2]; exact hI.small _ (by omega)), .inr ⟨by omega, t, ht, ?_, ?_⟩⟩
  · have : L'.getD (bsOf sp t) [] = headL ((m + 1 : Nat) : Int) 7 b' := by simp [List.getD, hh]
    rw [this]; exact small_head (by omega) hbb
  · exact slot_full h.sec (by rw [h.len]; exact bs_room hI.half _) (by omega) hb hbb (by omega) (by omega) (by decide) (by decide) hh hd
  · intro e f' x hx
    rw [o1] at hx
    rcases Nat.eq_zero_or_pos m with hz | hz
    · rw [t6 hz] at hx; cases hx
    · rw [t5 hz] at hx; simp only [Option.some.injEq, Prod.mk.injEq] at hx; omega
theorem laid_but {L : List (List UInt8)} {sp t m : Nat} {b b' : List UInt8} (hI : Inv L sp m b) {q : Nat} (hq : q ≤ sp - 1) (f : Nat → Nat) (hf : ∀ i, f i ≤ 64) : But L (settleM f 0 (wrL (bsOf sp t) b' q) L) sp t ∧
    (settleM f 0 (wrL (bsOf sp t) b' q) L)[bsOf sp t]? = L[bsOf sp t]? := by
  have hr := bs_room hI.half t
  have h2 := hI.sp2
  have ok := settleM_ok hf (wrL (bsOf sp t) b' q) 0 L hI.sec (wrL_wrs (by omega))
  have out := settle_out f (wrL (bsOf sp t) b' q) 0 L (wrL_in _ _ _)
  exact ⟨⟨ok.2, ok.1, fun a ha => out a (by omega)⟩, out _ (by omega)⟩
theorem But.put {L L1 : List (List UInt8)} {sp t : Nat} (h : But L L1 sp t) (hr : bsOf sp t + sp ≤ L.length) (h1 : 1 ≤ sp) {H : List UInt8} (hH : H.length = 64) {n : Nat} (hn : n ≤ 64) :
    But L (put1 L1 (bsOf sp t, H) n) sp t ∧ (put1 L1 (bsOf sp t, H) n)[bsOf sp t]? = some (H.take n ++ (L1.getD (bsOf sp t) []).drop n) ∧ ∀ i, (put1 L1 (bsOf sp t, H) n)[bsOf sp t + 1 + i]? = L1[bsOf sp t + 1 + i]? := by
  have ok := settleM_ok (f := fun _ => n) (fun _ => hn) [(bsOf sp t, H)] 0 L1 h.sec (by
    intro p hp
    rw [List.mem_singleton] at hp
    subst hp
    exact ⟨by rw [h.len]; simp only; omega, hH⟩)
  simp only [settleM] at ok
  refine ⟨⟨by rw [ok.2, h.len], ok.1, fun a ha => ?_⟩, ?_, fun i => ?_⟩
  · unfold put1
    simp only
    rw [List.getElem?_set_ne (by omega)]
    exact h.out a ha
  · unfold put1
    simp only
    rw [List.getElem?_set_self (by rw [h.len]; omega)]
  · unfold put1
    simp only
    rw [List.getElem?_set_ne (by omega)]
theorem getD_of {L : List (List UInt8)} {i : Nat} {x : List UInt8} (h : L[i]? = some x) : L.getD i [] = x := by simp [List.getD, h]
theorem num0 (n : Nat) : (numAt (n : Int) 0).toNat = n % 256 := by
  have e := numAt_eq (n : Int) 0
  have e2 : (2 : Int) ^ (8 * 0) = 1 := by decide
  rw [e2] at e
  omega
/-- the header of the slot written next is older than the last save -/
def Old (L : List (List UInt8)) (sp m : Nat) : Prop := hEp (L.getD (bsOf sp (tgt L)) []) < m ∨ hEp (L.getD (bsOf sp (tgt L)) []) < 1
structure Going (L : List (List UInt8)) (sp m : Nat) (b : List UInt8) : Prop where
  inv : Inv L sp m b
  str : Str L sp m
  old : Old L sp m
theorem Going.next {L L' : List (List UInt8)} {sp m : Nat} {b b' : List UInt8} (hG : Going L sp m b) (h : But L L' sp (tgt L)) (hm : m + 1 ≤ 255) (hb : b'.length ≤ (sp - 1) * 64)
    (hh : L'[bsOf sp (tgt L)]? = some (headL ((m + 1 : Nat) : Int) 7 b')) (hd : ∀ i, i < partsN b' → L'[bsOf sp (tgt L) + 1 + i]? = some (padS (partAt b' i))) : Going L' sp (m + 1) b' := by
  have hI' := hG.inv.next h hm hb hh hd
  have ht := tgt_lt L
  obtain ⟨o1, o2⟩ := h.other hG.inv ht
  have told' := hI'.told
  obtain ⟨t1, t2, t3, t4, t5, t6⟩ := hG.inv.told
  have hS := hG.str
  have hg : L'.getD (bsOf sp (tgt L)) [] = headL ((m + 1 : Nat) : Int) 7 b' := by simp [List.getD, hh]
  have htt : tgt L' = 1 - tgt L := by
    have h5 := told'.2.2.2.2.1 (by omega)
    have hlt := tgt_lt L'
    by_cases e : tgt L' = tgt L
    · rw [e, o1] at h5
      rcases Nat.eq_zero_or_pos m with hz | hz
      · rw [t6 hz] at h5; cases h5
      · rw [t5 hz] at h5; simp only [Option.some.injEq, Prod.mk.injEq] at h5; omega
    · omega
  refine ⟨hI', ⟨two_cases ht ?_ ?_, two_cases ht ?_ ?_⟩, ?_⟩
  · rw [hg, hEp_head _ _ (by omega)]; omega
  · rw [o2]; have := hS.ep (1 - tgt L) (by omega); omega
  · intro x hx
    rw [hg, (headL_parts _ _ _).2.2.2] at hx
    simp only [Option.some.injEq] at hx
    subst hx
    have e := num0 (m + 1)
    omega
  · intro x hx
    rw [o2] at hx
    have := hS.last (1 - tgt L) (by omega) x hx; omega
  · unfold Old
    rw [htt, o2]
    have := hS.ep (1 - tgt L) (by omega)
    omega
theorem Inv.base {k : Dk} {sp m : Nat} {b : List UInt8} (hI : Inv k.lasts sp m b) : saveBase k 7 = bsOf sp (tgt k.lasts) := by
  unfold saveBase tgt tgtOf
  rw [hI.half]
  split <;> rfl
/-- what a save behind m saves leaves -/
theorem save_leaves {k : Dk} {sp m : Nat} {b b' : List UInt8} (hI : Inv k.lasts sp m b) (hl : k.later = []) (hb : b'.length ≤ (sp - 1) * 64) :
    Left k (bsOf sp (tgt k.lasts)) b' (headL ((m + 1 : Nat) : Int) 7 b') (partsN b') (saveOf k 7 b') ∧ (saveOf k 7 b').stop = k.stop ∧ k.ops ≤ (saveOf k 7 b').ops ∧ (saveOf k 7 b').ops ≤ k.ops + partsN b' + 3 := by
  have hp := partsN_le hb
  have hr := bs_room hI.half (tgt k.lasts)
  have h2 := hI.sp2
  have hh := hI.told.2.2.2.1
  unfold saveOf
  rw [hI.base, hh]
  exact save_left hl hI.sec (headL_len _ _ _) (by omega)
theorem deadB_no (n : Int) : deadB n (-1) = false := by simp [deadB]
theorem whole_but {k : Dk} {sp m : Nat} {b b' : List UInt8} (hI : Inv k.lasts sp m b) (hb : b'.length ≤ (sp - 1) * 64) {L' : List (List UInt8)}
    (h1 : L' = (laid k.lasts (bsOf sp (tgt k.lasts)) b' (partsN b')).set (bsOf sp (tgt k.lasts)) (headL ((m + 1 : Nat) : Int) 7 b')) :
    But k.lasts L' sp (tgt k.lasts) ∧ L'[bsOf sp (tgt k.lasts)]? = some (headL ((m + 1 : Nat) : Int) 7 b') ∧ ∀ i, i < partsN b' → L'[bsOf sp (tgt k.lasts) + 1 + i]? = some (padS (partAt b' i)) := by
  have hp := partsN_le hb
  have hr := bs_room hI.half (tgt k.lasts)
  have h2 := hI.sp2
  obtain ⟨lb, lh⟩ := laid_but (b' := b') (t := tgt k.lasts) hI hp (fun _ => 64) (fun _ => Nat.le_refl _)
  have lg := laid_get (base := bsOf sp (tgt k.lasts)) (b := b') hI.sec (partsN b') (by omega)
  obtain ⟨p1, p2, p3⟩ := lb.put hr (by omega) (headL_len ((m + 1 : Nat) : Int) 7 b') (Nat.le_refl 64)
  have e : put1 (laid k.lasts (bsOf sp (tgt k.lasts)) b' (partsN b')) (bsOf sp (tgt k.lasts), headL ((m + 1 : Nat) : Int) 7 b') 64 = L' := by
    rw [h1]
    exact put1_all lb.sec (by have := lb.len; unfold laid; simp only; omega) (headL_len _ _ _)
  have e' : put1 (settleM (fun _ => 64) 0 (wrL (bsOf sp (tgt k.lasts)) b' (partsN b')) k.lasts) (bsOf sp (tgt k.lasts), headL ((m + 1 : Nat) : Int) 7 b') 64 = L' := e
  rw [e'] at p1 p2 p3
  refine ⟨p1, ?_, fun i hi => by rw [p3 i]; exact lg i hi⟩
  rw [p2, List.take_of_length_le (Nat.le_of_eq (headL_len _ _ _)), List.drop_of_length_le, List.append_nil]
  rw [show (settleM (fun _ => 64) 0 (wrL (bsOf sp (tgt k.lasts)) b' (partsN b')) k.lasts).getD (bsOf sp (tgt k.lasts)) [] = k.lasts.getD (bsOf sp (tgt k.lasts)) [] by simp [List.getD, lh]]
  exact Nat.le_of_eq (hI.small _ (tgt_lt _)).len
/-- a save while the power stays -/
theorem Left.calm {k k2 : Dk} {base R : Nat} {b H : List UInt8} (h : Left k base b H R k2) (hs : k2.stop = -1) : k2.lasts = (laid k.lasts base b R).set base H ∧ k2.later = [] := by
  have hn : k2.dead ≠ true := by unfold Dk.dead; rw [hs, deadB_no]; decide
  cases h with
  | data q hq h1 h2 hd => exact absurd hd hn
  | flushed h1 h2 hd => exact absurd hd hn
  | headed h1 h2 hd => exact absurd hd hn
  | whole h1 h2 => exact ⟨h1, h2⟩
theorem save_inv {k : Dk} {sp m : Nat} {b b' : List UInt8} (hI : Inv k.lasts sp m b) (hl : k.later = []) (hs : k.stop = -1) (hb : b'.length ≤ (sp - 1) * 64) (hm : m + 1 ≤ 255) :
    Inv (saveOf k 7 b').lasts sp (m + 1) b' ∧ (saveOf k 7 b').later = [] := by
  obtain ⟨l1, l2, l3, l4⟩ := save_leaves hI hl hb
  obtain ⟨w1, w2⟩ := l1.calm (l2.trans hs)
  obtain ⟨c1, c2, c3⟩ := whole_but hI hb w1
  exact ⟨hI.next c1 hm hb c2 c3, w2⟩
theorem save_going {k : Dk} {sp m : Nat} {b b' : List UInt8} (hG : Going k.lasts sp m b) (hl : k.later = []) (hs : k.stop = -1) (hb : b'.length ≤ (sp - 1) * 64) (hm : m + 1 ≤ 255) :
    Going (saveOf k 7 b').lasts sp (m + 1) b' ∧ (saveOf k 7 b').later = [] ∧ (saveOf k 7 b').stop = -1 ∧ (saveOf k 7 b').ops ≤ k.ops + partsN b' + 3 := by
  obtain ⟨l1, l2, l3, l4⟩ := save_leaves hG.inv hl hb
  obtain ⟨w1, w2⟩ := l1.calm (l2.trans hs)
  obtain ⟨c1, c2, c3⟩ := whole_but hG.inv hb w1
  exact ⟨hG.next c1 hm hb c2 c3, w2, l2.trans hs, l4⟩
/-- a header that is torn is no newer one -/
theorem torn_slot {L' : List (List UInt8)} {m base room n : Nat} {old b' : List UInt8} (hso : Small old) (hn : n < 64) (hm : m + 1 ≤ 255) (hb : b'.length ≤ 65535)
    (he : hEp old < m ∨ hEp old < 1) (hx : ∀ x, old[63]? = some x → x.toNat ≤ m) (hg : L'.getD base [] = (headL ((m + 1 : Nat) : Int) 7 b').take n ++ old.drop n) :
    ∀ e f x, slotOf L' base room = some (e, f, x) → e < m := by
  intro e f x hq
  obtain ⟨q1, q2, q3⟩ := slot_val hq
  have hsh : Small (headL ((m + 1 : Nat) : Int) 7 b') := small_head (by omega) hb
  have hmx := hsh.mix hso (n := n) (by omega)
  rw [← hg] at hmx
  have hget : ∀ i, (L'.getD base [])[i]? = if i < n then (headL ((m + 1 : Nat) : Int) 7 b')[i]? else old[i]? := by
    intro i; rw [hg]; exact mix_get hsh.len hso.len (by omega) i
  obtain ⟨a1, e1⟩ := get_lt hsh.len (show 11 < 64 by decide)
  obtain ⟨a2, e2⟩ := get_lt hsh.len (show 12 < 64 by decide)
  obtain ⟨c1, f1⟩ := get_lt hso.len (show 11 < 64 by decide)
  obtain ⟨c2, f2⟩ := get_lt hso.len (show 12 < 64 by decide)
  obtain ⟨c3, f3⟩ := get_lt hso.len (show 63 < 64 by decide)
  have hep := hsh.ep e1 e2
  rw [hEp_head _ _ (by omega)] at hep
  have hop := hso.ep f1 f2
  have := a1.toNat_lt
  have := a2.toNat_lt
  have := c1.toNat_lt
  have := c2.toNat_lt
  have ha1 : a1.toNat = 0 := by omega
  by_cases h12 : n ≤ 12
  · have g2 : (L'.getD base [])[12]? = some c2 := by rw [hget, if_neg (by omega)]; exact f2
    by_cases h11 : n ≤ 11
    · have g1 : (L'.getD base [])[11]? = some c1 := by rw [hget, if_neg (by omega)]; exact f1
      have := hmx.ep g1 g2
      omega
    · have g1 : (L'.getD base [])[11]? = some a1 := by rw [hget, if_pos (by omega)]; exact e1
      have := hmx.ep g1 g2
      omega
  · have g1 : (L'.getD base [])[11]? = some a1 := by rw [hget, if_pos (by omega)]; exact e1
    have g2 : (L'.getD base [])[12]? = some a2 := by rw [hget, if_pos (by omega)]; exact e2
    have g3 : (L'.getD base [])[63]? = some c3 := by rw [hget, if_neg (by omega)]; exact f3
    have hE := hmx.ep g1 g2
    have hl := hx c3 f3
    have h63 := (headL_parts (hEp (L'.getD base [])) (hFo (L'.getD base [])) x).2.2.2
    rw [q3, g3] at h63
    simp only [Option.some.injEq] at h63
    have hEm : hEp (L'.getD base []) = ((m + 1 : Nat) : Int) := by omega
    rw [hEm] at h63
    have := num0 (m + 1)
    rw [← h63] at this
    omega
/-- a save that is cut off, and a crash -/
theorem save_crash {k : Dk} {sp m : Nat} {b b' : List UInt8} (hG : Going k.lasts sp m b) (hl : k.later = []) (hb : b'.length ≤ (sp - 1) * 64) (hm : m + 1 ≤ 255) (kp : List Bool) (torn tear : Int) :
    (Inv ((saveOf k 7 b').crash kp torn tear).lasts sp m b ∧ (saveOf k 7 b').dead = true) ∨ Inv ((saveOf k 7 b').crash kp torn tear).lasts sp (m + 1) b' := by
  obtain ⟨l1, l2, l3, l4⟩ := save_leaves hG.inv hl hb
  generalize saveOf k 7 b' = k2 at *
  have hI := hG.inv
  have hp := partsN_le hb
  have hr := bs_room hI.half (tgt k.lasts)
  have h2 := hI.sp2
  have hle := hI.le
  have hhf := hI.half
  have ht := tgt_lt k.lasts
  have hbb : b'.length ≤ 65535 := by
    have : (sp - 1) * 64 ≤ 512 * 64 := Nat.mul_le_mul_right _ (by omega)
    omega
  have hold : ∀ L' : List (List UInt8), But k.lasts L' sp (tgt k.lasts) → L'[bsOf sp (tgt k.lasts)]? = k.lasts[bsOf sp (tgt k.lasts)]? → Inv L' sp m b := by
    intro L' h e
    have hg : L'.getD (bsOf sp (tgt k.lasts)) [] = k.lasts.getD (bsOf sp (tgt k.lasts)) [] := by simp [List.getD, e]
    refine hI.torn h (by rw [hg]; exact hI.small _ ht) ?_
    intro e f x hq
    obtain ⟨q1, q2, q3⟩ := slot_val hq
    rw [hg] at q1
    have := hG.old
    unfold Old at this
    omega
  show (Inv (k2.settled (crashN kp torn tear)) sp m b ∧ k2.dead = true) ∨ Inv (k2.settled (crashN kp torn tear)) sp (m + 1) b'
  unfold Dk.settled
  cases l1 with
  | data q hq h1 h2 hd =>
    rw [h1, h2]
    obtain ⟨lb, lh⟩ := laid_but (b' := b') (t := tgt k.lasts) hI (show q ≤ sp - 1 by omega) (crashN kp torn tear) (crashN_le kp torn tear)
    exact .inl ⟨hold _ lb lh, hd⟩
  | flushed h1 h2 hd =>
    rw [h1, h2]
    obtain ⟨lb, lh⟩ := laid_but (b' := b') (t := tgt k.lasts) hI hp (fun _ => 64) (fun _ => Nat.le_refl _)
    exact .inl ⟨hold _ lb lh, hd⟩
  | headed h1 h2 hd =>
    rw [h1, h2]
    obtain ⟨lb, lh⟩ := laid_but (b' := b') (t := tgt k.lasts) hI hp (fun _ => 64) (fun _ => Nat.le_refl _)
    have hcn := crashN_le kp torn tear 0
    simp only [settleM]
    generalize crashN kp torn tear 0 = n at *
    obtain ⟨p1, p2, p3⟩ := lb.put hr (by omega) (headL_len ((m + 1 : Nat) : Int) 7 b') hcn
    have lg := laid_get (base := bsOf sp (tgt k.lasts)) (b := b') hI.sec (partsN b') (by omega)
    unfold laid at lg ⊢
    have hgo : (settleM (fun _ => 64) 0 (wrL (bsOf sp (tgt k.lasts)) b' (partsN b')) k.lasts).getD (bsOf sp (tgt k.lasts)) [] = k.lasts.getD (bsOf sp (tgt k.lasts)) [] := by simp [List.getD, lh]
    rw [hgo] at p2
    have hso := hI.small _ ht
    rcases Nat.lt_or_ge n 64 with hn | hn
    · refine .inl ⟨hI.torn p1 ?_ ?_, hd⟩
      · rw [getD_of p2]
        exact (small_head (by omega) hbb).mix hso hcn
      · exact torn_slot hso hn hm hbb hG.old (hG.str.last _ ht) (getD_of p2)
    · refine .inr (hI.next p1 hm hb ?_ fun i hi => by rw [p3 i]; exact lg i hi)
      rw [p2, List.take_of_length_le (by rw [headL_len]; exact hn), List.drop_of_length_le (by rw [hso.len]; exact hn), List.append_nil]
  | whole h1 h2 =>
    rw [h2]
    obtain ⟨c1, c2, c3⟩ := whole_but hI hb h1
    exact .inr (hI.next c1 hm hb c2 c3)
/-- a new disk -/
theorem start_going {n : Nat} (h1 : 4 ≤ n) (h2 : n ≤ 1024) : Going (Dk.new n).lasts (n / 2) 0 [] := by
  have hg : ∀ i, i < 2 → (List.replicate n nought).getD (bsOf (n / 2) i) [] = nought := by
    intro i hi
    have : bsOf (n / 2) i < n := by rcases bs_le (n / 2) i with e | e <;> rw [e] <;> omega
    simp [List.getD, List.getElem?_replicate, this]
  have he : hEp nought = 0 := by decide
  have hl : (Dk.new n).lasts = List.replicate n nought := rfl
  rw [hl]
  refine ⟨⟨by omega, by simp, by simp; omega, ?_, fun i hi => by rw [hg i hi]; exact small_nought, .inl ⟨rfl, rfl, fun i hi => ?_⟩⟩, ⟨fun i hi => by rw [hg i hi, he]; decide, fun i hi x hx => ?_⟩, .inr ?_⟩
  · intro s hs
    rw [List.mem_replicate] at hs
    rw [hs.2]; exact small_nought.len
  · unfold slotOf
    rw [hg i hi]
    dsimp only
    rw [if_pos (.inl (by rw [he]; decide))]
  · rw [hg i hi] at hx
    simp [nought] at hx
    subst hx; decide
  · rw [hg _ (tgt_lt _), he]; decide
end Go.Proofs.Ytclingkhdmhhoaa

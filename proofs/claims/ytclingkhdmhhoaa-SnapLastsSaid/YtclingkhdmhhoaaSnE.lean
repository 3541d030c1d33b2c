/- Plain: what a slot of a disk tells; the disk's Read where no write waits. No condition. -/
import Derived.Test.YtclingkhdmhhoaaSnD
namespace Go.Proofs.Ytclingkhdmhhoaa
open Go.RowKit
set_option linter.unusedSimpArgs false
set_option linter.unusedVariables false

def hEp (h : List UInt8) : Int := valGo ((h.drop 5).take 8) 0
def hSz (h : List UInt8) : Int := valGo ((h.drop 13).take 8) 0
def hFo (h : List UInt8) : Int := valGo ((h.drop 21).take 4) 0
/-- a header whose numbers are small -/
structure HdOk (h : List UInt8) : Prop where
  len : h.length = 64
  ep0 : 0 ≤ hEp h
  ep : hEp h ≤ 1073741824
  sz0 : 0 ≤ hSz h
  sz : hSz h ≤ 1073741824
  fo0 : 0 ≤ hFo h
  fo : hFo h < 4294967296
/-- the slot that begins at a sector: its header, and what is behind it; room: how many bytes -/
def slotOf (L : List (List UInt8)) (base room : Nat) : Option (Nat × Int × List UInt8) :=
  let h := L.getD base []
  if hEp h < 1 ∨ (room : Int) < hSz h then none
  else
    let b := ((L.drop (base + 1)).flatten).take (hSz h).toNat
    if headL (hEp h) (hFo h) b = h then some ((hEp h).toNat, hFo h, b) else none

theorem valGo_bd : ∀ (l : List UInt8) (n : Int), 0 ≤ n → n < 18446744073709551616 → 0 ≤ valGo l n ∧ valGo l n < 18446744073709551616
  | [], n, h0, h1 => ⟨h0, h1⟩
  | c :: l, n, _, _ => valGo_bd l _ (bits_u64 _ _ _).1 (bits_u64 _ _ _).2

theorem read_at {w0 : World} {d : Nat} {k : Dk} {C : List (Nat × Obj)} (h : Has w0 C) (hd : Disk d k C) (hl : k.later = []) {a : Int} {m : Nat} {s : List UInt8} (ha : a = m) (hs : k.lasts[m]? = some s) :
    Calls Try.prog 36 #[.pointer (some ⟨d, 0, none⟩), .int .i64 a] w0 fun e w' => e = .returned (.tuple #[.agg (sv s).toArray, .int .i64 0]) ∧ St w0 (keys C) C w' := by
  have hr := read_any h hd a
  have hm := (List.getElem?_eq_some_iff.1 hs).1
  have e : k.read a = (s, 0) := by
    subst ha
    have ht : k.there (m : Int) = true := by simp [Dk.there]; exact hm
    have h2 : k.last m = s := by simp [Dk.last, hl, hs]
    simp [Dk.read, ht, h2]
  rw [e] at hr
  exact hr
/-- bytes in a block of their own -/
def Byt (v : Value) (b : List UInt8) (CB : List (Nat × Obj)) : Prop :=
  ∃ A c, v = .slice A b.length c ∧ b.length ≤ c ∧ c ≤ maxLen ∧ (b = [] ∨ ∃ g junk, A = some ⟨g, 0, none⟩ ∧ (g, row 5 (sv b ++ junk)) ∈ CB)
theorem Byt.txt {w0 w : World} {D : List Nat} {H CB : List (Nat × Obj)} {v : Value} {b : List UInt8} (h : Byt v b CB) (hs : St w0 D H w) (hC : ∀ p ∈ CB, p ∈ H) : Txt w [] v b := by
  obtain ⟨A, c, rfl, h1, h2, h3⟩ := h
  refine ⟨A, c, rfl, h1, h2, ?_⟩
  rcases h3 with h3 | ⟨g, junk, rfl, hm⟩
  · exact .inl h3
  · have hg := hs.has.known _ (hC _ hm)
    refine .inr ⟨g, 0, rfl, (Array.getElem?_eq_some_iff.1 hg).1, by simp, fun i x hx => ?_⟩
    have hi := (List.getElem?_eq_some_iff.1 hx).1
    rw [row_cell hg, Nat.zero_add, List.getElem?_append_left (by rw [length_sv]; exact hi)]
    simp [sv, hx]
section
variable {P : Program} {ops : Array Oper} {E : List Nat} {Ws : Nat → World} {R : Act → Prop} {i : Nat} {o : Oper} {rest : List Oper} {a a' : Act} {v : Value}
theorem LinP.qcall {f : Nat} {args : Array Value} (q : Nat) (hw : Region.wanted o (yielded ops a.tmps) = true) (hE : E.contains i = false) (hlo : Nat.ble q (lo ops E i) = true) (hhi : Nat.ble (hi ops E i) q = true)
    (h : (execOp a.eval o).run P (Ws q) = .ok (.enter f args) (Ws q)) (hc : Calls P f args (Ws q) (fun e w' => e = .returned v ∧ Ws q = w')) (ha : a.put o.dst v = a') (hr : LinP P ops E Ws R (i + 1) rest a') : LinP P ops E Ws R i (o :: rest) a :=
  ⟨v, fun p h1 h2 => by
    have e1 := Nat.le_of_ble_eq_true hlo
    have e2 := Nat.le_of_ble_eq_true hhi
    obtain rfl : p = q := by omega
    unfold RunsTo
    rw [if_pos hw, h]
    exact hc.mono fun e w' ⟨he, hq⟩ => ⟨he, by rw [hE]; exact hq.symm⟩, ha ▸ hr⟩
end
theorem ex_sliceLoHi {P : Program} {ρ : Operand → Value} {dst : Option Tmp} {t : TypeId} {pos : String} {aft : Array Edge} {g : Option (Nat × Bool)} {ty e sz b o n lo hi : Nat} {x y z : Operand} {k k' : IntKind} (hs : Ar P ty n e sz) (hx : ρ x = .pointer (some ⟨b, o, none⟩)) (hy : ρ y = .int k lo) (hz : ρ z = .int k' hi) (h1 : lo ≤ hi) (h2 : hi ≤ n) (h3 : lo ≠ n) (w : World) :
    (execOp ρ ⟨dst, .slice ty x (some y) (some z) none, t, pos, aft, g⟩).run P w = .ok (.value (.slice (some ⟨b, o + lo * sz, none⟩) (hi - lo) (n - lo))) w := by
  simp [execOp, hx, hy, hz, Instr.sliceAt, Instr.sureAddr, Instr.sliceBounds, Instr.sliceBound, asIntOf, run_underlying hs.und, run_sizeOf hs.siz, h1, h2, add_none, Ne.symm h3]
/-- a part of an array of 64 bytes, as a text -/
theorem txt_part {w : World} {hb : Nat} {h : List UInt8} (hg : w.heap[hb]? = some (row 38 (sv h))) (hl : h.length = 64) (lo n : Nat) (hn : lo + n ≤ 64) : Txt w [] (.slice (some ⟨hb, 0 + lo * 1, none⟩) n (64 - lo)) ((h.drop lo).take n) := by
  have e : ((h.drop lo).take n).length = n := by rw [List.length_take, List.length_drop, hl]; omega
  refine ⟨_, _, by rw [e], by rw [e]; omega, by unfold maxLen; omega, .inr ⟨hb, _, rfl, (Array.getElem?_eq_some_iff.1 hg).1, by simp, fun i x hx => ?_⟩⟩
  rw [List.getElem?_take] at hx
  split at hx
  · rw [List.getElem?_drop] at hx
    rw [row_cell hg, show 0 + lo * 1 + i = lo + i by omega]
    simp [sv, hx]
  · cases hx
end Go.Proofs.Ytclingkhdmhhoaa

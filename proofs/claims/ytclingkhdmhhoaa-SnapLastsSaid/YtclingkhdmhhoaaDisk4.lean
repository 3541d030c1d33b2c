/- The walks of package disk's functions, more: Crash, Stop, Ops, New. No condition. -/
import Derived.Test.YtclingkhdmhhoaaDisk3
namespace Go.Proofs.Ytclingkhdmhhoaa
open Go.RowKit
set_option linter.unusedSimpArgs false

/-- a slice of truths that is read -/
def Bools (w : World) (v : Value) (kp : List Bool) : Prop :=
  ∃ a c, v = .slice a kp.length c ∧ (kp = [] ∨ ∃ b o, a = some ⟨b, o, none⟩ ∧ ∀ j, j < kp.length → w.cell? ⟨b, o + j, none⟩ = some (.bool (kp.getD j false)))

/-- how many bytes of a write last behind a crash -/
def crashN (kp : List Bool) (torn tear : Int) (i : Nat) : Nat := if (i : Int) = torn then (tear % 64).toNat else if kp.getD i false = true then 64 else 0
theorem crashN_le (kp : List Bool) (torn tear : Int) (i : Nat) : crashN kp torn tear i ≤ 64 := by
  unfold crashN; split
  · omega
  · split <;> omega

theorem tmod_twice (x : Int) : (x.tmod 64 + 64) % 64 = x % 64 := by
  rcases Int.lt_or_le x 0 with h | h
  · obtain ⟨n, rfl⟩ : ∃ n : Nat, x = -(n : Int) := ⟨(-x).toNat, by omega⟩
    rw [Int.neg_tmod, Int.tmod_eq_emod_of_nonneg (by omega)]; omega
  · rw [Int.tmod_eq_emod_of_nonneg h]; omega
theorem tmod_bd (x : Int) : -64 < x.tmod 64 ∧ x.tmod 64 < 64 := by
  rcases Int.lt_or_le x 0 with h | h
  · obtain ⟨n, rfl⟩ : ∃ n : Nat, x = -(n : Int) := ⟨(-x).toNat, by omega⟩
    rw [Int.neg_tmod, Int.tmod_eq_emod_of_nonneg (by omega)]; omega
  · rw [Int.tmod_eq_emod_of_nonneg h]; omega

set_option maxHeartbeats 1000000 in
set_option maxRecDepth 4000 in
theorem crash1 {w : World} {bt br bk : Nat} {torn tear : Int} {kv : Value} {kp : List Bool} {i : Nat} (ht : w.cell? ⟨bt, 0, none⟩ = some (.int .i64 torn)) (hr : w.cell? ⟨br, 0, none⟩ = some (.int .i64 tear))
    (hk : w.cell? ⟨bk, 0, none⟩ = some kv) (hkv : Bools w kv kp) (hlen : kp.length ≤ 1073741824) :
    Calls Try.prog 43 #[.int .i64 i, .pointer (some ⟨bt, 0, none⟩), .pointer (some ⟨br, 0, none⟩), .pointer (some ⟨bk, 0, none⟩)] w fun e w' => e = .returned (.int .i64 (crashN kp torn tear i)) ∧ ∃ n, w' = w.drewN n := by
  obtain ⟨a, c, rfl, hcells⟩ := hkv
  by_cases h1 : (i : Int) = torn
  · have e : (crashN kp torn tear i : Int) = (tear.tmod 64 + 64) % 64 := by
      rw [tmod_twice]; unfold crashN; rw [if_pos h1]; omega
    rw [e]
    clear e hcells
    have hbd := tmod_bd tear
    have hteq : ((i : Int) == torn) = true := by simpa using h1
    clear h1
    go_enter Try.func43, Try.ntmps43
    go_wp2
    go_ret
    exact ⟨rfl, 0, rfl⟩
  · have hteq : ((i : Int) == torn) = false := by simpa using h1
    by_cases h2 : i < kp.length
    · obtain ⟨b, o, rfl, hcells2⟩ : ∃ b o, a = some ⟨b, o, none⟩ ∧ ∀ j, j < kp.length → w.cell? ⟨b, o + j, none⟩ = some (.bool (kp.getD j false)) := by
        rcases hcells with rfl | h
        · simp at h2
        · exact h
      have hc := hcells2 i h2
      clear hcells hcells2
      cases hkp : kp.getD i false with
      | true =>
        have e : (crashN kp torn tear i : Int) = 64 := by unfold crashN; rw [if_neg h1, if_pos hkp]; rfl
        rw [e]
        rw [hkp] at hc
        clear e h1 hkp
        go_enter Try.func43, Try.ntmps43
        go_wp2
        go_ret
        exact ⟨rfl, 0, rfl⟩
      | false =>
        have e : (crashN kp torn tear i : Int) = 0 := by unfold crashN; rw [if_neg h1, if_neg (by rw [hkp]; decide)]; rfl
        rw [e]
        rw [hkp] at hc
        clear e h1 hkp
        go_enter Try.func43, Try.ntmps43
        go_wp2
        go_ret
        exact ⟨rfl, 0, rfl⟩
    · have hng : ¬ kp.getD i false = true := by
        have hn : kp[i]? = none := List.getElem?_eq_none (by omega)
        simp [List.getD, hn]
      have e : (crashN kp torn tear i : Int) = 0 := by unfold crashN; rw [if_neg h1, if_neg hng]; rfl
      rw [e]
      clear e h1 hcells hng
      go_enter Try.func43, Try.ntmps43
      go_wp2
      go_ret
      exact ⟨rfl, 0, rfl⟩

def Dk.crash (k : Dk) (kp : List Bool) (torn tear : Int) : Dk := { k with lasts := k.settled (crashN kp torn tear), later := [], stop := -1 }

theorem Bools.keep {w w' : World} {v : Value} {kp : List Bool} (h : Bools w v kp) (hc : ∀ p v, w.cell? p = some v → w'.cell? p = some v) : Bools w' v kp := by
  obtain ⟨a, c, rfl, hh⟩ := h
  refine ⟨a, c, rfl, ?_⟩
  rcases hh with hh | ⟨b, o, e, hh⟩
  · exact .inl hh
  · exact .inr ⟨b, o, e, fun j hj => hc _ _ (hh j hj)⟩

set_option maxHeartbeats 1000000 in
set_option maxRecDepth 4000 in
/-- Crash; the truths lie outside the disk -/
theorem crash_any {w0 : World} {d : Nat} {k : Dk} {C : List (Nat × Obj)} {kv : Value} {kp : List Bool} {torn tear : Int} (h : Has w0 C) (hd : Disk d k C) (hlen : kp.length ≤ 1073741824)
    (hk : ∀ w', St w0 (keys C) [] w' → Bools w' kv kp) :
    Calls Try.prog 17 #[.pointer (some ⟨d, 0, none⟩), kv, .int .i64 torn, .int .i64 tear] w0 fun e w' => e = .returned (.tuple #[]) ∧ ∃ C', Disk d (k.crash kp torn tear) C' ∧ St w0 (keys C) C' w' := by
  obtain ⟨ok, bl, lv, CL, rfl, hsl⟩ := hd
  have hs := St.start h
  generalize hD : keys ([(d, row 82 [.slice (some ⟨bl, 0, none⟩) k.lasts.length k.lasts.length, lv, .int .i64 k.ops, .int .i64 k.stop]), (bl, row 38 (secs k.lasts))] ++ CL) = D at hs hk ⊢
  clear h hD
  have hset := ok.settled (f := crashN kp torn tear) (crashN_le kp torn tear)
  have hb0 : 0 ≤ k.ops := by have := ok.len; omega
  have hlat : k.later.length ≤ 1073741824 := by have := ok.len; have := ok.ops; omega
  obtain ⟨ka, kc, rfl⟩ : ∃ a c, kv = .slice a kp.length c := by
    obtain ⟨a, c, e, _⟩ := hk _ (St.drop (A := [(d, row 82 [.slice (some ⟨bl, 0, none⟩) k.lasts.length k.lasts.length, lv, .int .i64 k.ops, .int .i64 k.stop]), (bl, row 38 (secs k.lasts))] ++ CL) (B := []) (by simpa using hs))
    exact ⟨a, c, e⟩
  have hk := hid hk
  have hcalls : ∀ (bk bt br : Nat) (w : World), St w0 D (([(br, row 3 [.int .i64 tear]), (bt, row 3 [.int .i64 torn]), (bk, row 23 [.slice ka kp.length kc])]) ++ ([(d, row 82 [.slice (some ⟨bl, 0, none⟩) k.lasts.length k.lasts.length, lv, .int .i64 k.ops, .int .i64 k.stop]), (bl, row 38 (secs k.lasts))] ++ CL)) w →
      Calls Try.prog 42 #[.pointer (some ⟨d, 0, none⟩), .func (.func 43) #[] #[.pointer (some ⟨bt, 0, none⟩), .pointer (some ⟨br, 0, none⟩), .pointer (some ⟨bk, 0, none⟩)]] w fun e w' => e = .returned (.tuple #[]) ∧
        St w0 D [(d, row 82 [.slice (some ⟨bl, 0, none⟩) k.lasts.length k.lasts.length, .slice none 0 0, .int .i64 k.ops, .int .i64 k.stop]), (bl, row 38 (secs (k.settled (crashN kp torn tear))))] w' := by
    intro bk bt br w hs
    have hp := hs.perm (List.perm_append_comm)
    refine (settle_any (F := [(br, row 3 [.int .i64 tear]), (bt, row 3 [.int .i64 torn]), (bk, row 23 [.slice ka kp.length kc])]) (first := #[]) (bs := crashN kp torn tear) hp.has ok.sec ok.wrs hsl hlat (crashN_le kp torn tear) cf43 ?_).mono ?_
    · intro i hi C' w' hs'
      have hs2 := hp.trans hs'
      have hF := hs2.has.right
      refine crash1 (row_cell (hF.known (bt, row 3 [.int .i64 torn]) (by simp)) 0) (row_cell (hF.known (br, row 3 [.int .i64 tear]) (by simp)) 0) (row_cell (hF.known (bk, row 23 [.slice ka kp.length kc]) (by simp)) 0) (hk.out w' ?_) hlen
      exact St.drop (A := C' ++ [(br, row 3 [.int .i64 tear]), (bt, row 3 [.int .i64 torn]), (bk, row 23 [.slice ka kp.length kc])]) (B := []) (by simpa using hs2)
    · rintro e w' ⟨rfl, hs'⟩
      refine ⟨rfl, ?_⟩
      exact St.keep (B := [(br, row 3 [.int .i64 tear]), (bt, row 3 [.int .i64 torn]), (bk, row 23 [.slice ka kp.length kc])]) (hp.trans hs')
  have hcalls := hid hcalls
  clear hsl
  go_enter Try.func17, Try.ntmps17
  go_wp2_with (first
    | ((with_reducible refine gd_bx ?_); first | (refine wl_of rfl (hs.bxa (by first | exact ev rfl | rfl) ?_); intro bx w hbx hs) | (refine wl_of rfl (hs.bx1 (by first | exact ev rfl | exact evc | rfl) (by rfl) ?_); intro bx w hbx hs)) | ((with_reducible refine gd_ld ?_); first | refine wl_of rfl (hs.ld 0 rfl rfl (sc_of rfl) rfl ?_) | refine wl_of rfl (hs.ld 1 rfl rfl (sc_of rfl) rfl ?_) | refine wl_of rfl (hs.ld 2 rfl rfl (sc_of rfl) rfl ?_)) | ((with_reducible refine gd_st ?_); first | (refine wl_of rfl (hs.st 0 rfl rfl (sc_of rfl) (by first | exact evc | exact ev rfl | rfl) (by rfl) (Nat.le_of_ble_eq_true rfl) ?_); intro w hs; simp only [List.cons_append, List.nil_append, List.set_cons_succ, List.set_cons_zero] at hs))
    | (go_at_call 42; refine (hcalls.out _ _ _ _ hs).mono ?_; rintro e w ⟨rfl, hs⟩))
  go_end0
  refine ⟨rfl, _, ⟨⟨hset.1, (by intro p hp; cases hp), ?_, ok.ops, by show 1 ≤ (k.settled _).length; rw [hset.2]; exact ok.some, by show (k.settled _).length ≤ _; rw [hset.2]; exact ok.most⟩, bl, .slice none 0 0, [], rfl, Sl.nil _ _⟩, ?_⟩
  · show ((([] : List (Nat × List UInt8)).length : Nat) : Int) ≤ k.ops
    simpa using hb0
  · simp only [Dk.crash, hset.2]
    exact hs
end Go.Proofs.Ytclingkhdmhhoaa

/- The walks of package disk's functions, more: Write, Flush, Crash, Stop, Ops, New. No condition. -/
import Derived.Test.YtclingkhdmhhoaaDisk2
namespace Go.Proofs.Ytclingkhdmhhoaa
open Go.RowKit
set_option linter.unusedSimpArgs false

/-- what a disk is -/
structure Dk where
  lasts : List (List UInt8)
  later : List (Nat × List UInt8)
  ops : Int
  stop : Int

structure Dk.Ok (k : Dk) : Prop where
  sec : Sec k.lasts
  wrs : Wrs k.lasts.length k.later
  len : (k.later.length : Int) ≤ k.ops
  ops : k.ops ≤ 1048576
  some : 1 ≤ k.lasts.length
  most : k.lasts.length ≤ 65536

/-- a disk in memory -/
def Disk (d : Nat) (k : Dk) (C : List (Nat × Obj)) : Prop :=
  k.Ok ∧ ∃ bl lv CL, C = [(d, row 82 [.slice (some ⟨bl, 0, none⟩) k.lasts.length k.lasts.length, lv, .int .i64 k.ops, .int .i64 k.stop]), (bl, row 38 (secs k.lasts))] ++ CL ∧ Sl 85 65 lv k.later.length (wvs k.later) CL

def Dk.dead (k : Dk) : Bool := deadB k.ops k.stop
def Dk.there (k : Dk) (a : Int) : Bool := decide (0 ≤ a ∧ a < k.lasts.length)
def Dk.write (k : Dk) (a : Int) (s : List UInt8) : Dk :=
  if k.there a = true ∧ k.dead = false then { k with ops := k.ops + 1, later := k.later ++ [(a.toNat, s)] } else k

theorem wvs_snoc (l : List (Nat × List UInt8)) (p : Nat × List UInt8) : wvs (l ++ [p]) = wvs l ++ wv p := by simp [wvs]

set_option maxHeartbeats 1000000 in
set_option maxRecDepth 4000 in
theorem write_any {w0 : World} {d : Nat} {k : Dk} {C : List (Nat × Obj)} {a : Int} {s : List UInt8} (h : Has w0 C) (hd : Disk d k C) (hops : k.ops + 1 ≤ 1048576) (hs64 : s.length = 64) :
    Calls Try.prog 14 #[.pointer (some ⟨d, 0, none⟩), .int .i64 a, .agg (sv s).toArray] w0 fun e w' => e = .returned (.int .i64 (if k.there a = true then 0 else 2)) ∧
      ∃ C', Disk d (k.write a s) C' ∧ St w0 (keys C) C' w' := by
  obtain ⟨ok, bl, lv, CL, rfl, hsl⟩ := hd
  have hs := St.start h
  generalize hD : keys ([(d, row 82 [.slice (some ⟨bl, 0, none⟩) k.lasts.length k.lasts.length, lv, .int .i64 k.ops, .int .i64 k.stop]), (bl, row 38 (secs k.lasts))] ++ CL) = D at hs ⊢
  clear h hD
  cases ht : k.there a with
  | false =>
    have e1 : decide (0 ≤ a ∧ a < k.lasts.length) = false := ht
    have hw : k.write a s = k := by simp [Dk.write, ht]
    rw [hw]
    go_enter Try.func14, Try.ntmps14
    go_wp2_with (first
      | ((with_reducible refine gd_bx ?_); first | (refine wl_of rfl (hs.bxa (by first | exact ev rfl | rfl) ?_); intro bx w hbx hs) | (refine wl_of rfl (hs.bx1 (by first | exact ev rfl | exact evc | rfl) (by rfl) ?_); intro bx w hbx hs)) | ((with_reducible refine gd_ld ?_); first | refine wl_of rfl (hs.ld 0 rfl rfl (sc_of rfl) rfl ?_) | refine wl_of rfl (hs.ld 1 rfl rfl (sc_of rfl) rfl ?_) | refine wl_of rfl (hs.ld 2 rfl rfl (sc_of rfl) rfl ?_))
      | (go_at_call 37; refine (there_any (hs.at 3 rfl)).mono ?_; rintro e w' ⟨rfl, rfl⟩; rw [e1]))
    go_ret
    exact ⟨rfl, _, ⟨ok, bl, lv, CL, rfl, hsl⟩, St.drop (A := [_, _, _]) hs⟩
  | true =>
    have e1 : decide (0 ≤ a ∧ a < k.lasts.length) = true := ht
    obtain ⟨a, rfl⟩ : ∃ n : Nat, a = n := ⟨a.toNat, by simp at e1; omega⟩
    have ha : a < k.lasts.length := by simpa using e1
    have hb0 : 0 ≤ k.ops := by have := ok.len; omega
    have hfin : ∀ w', (k.dead = true → St w0 D ([(d, row 82 [.slice (some ⟨bl, 0, none⟩) k.lasts.length k.lasts.length, lv, .int .i64 k.ops, .int .i64 k.stop]), (bl, row 38 (secs k.lasts))] ++ CL) w' →
        ∃ C', Disk d (k.write a s) C' ∧ St w0 D C' w') := by
      intro w' hdd hs'
      have hw : k.write a s = k := by simp [Dk.write, hdd]
      rw [hw]
      exact ⟨_, ⟨ok, bl, lv, CL, rfl, hsl⟩, hs'⟩
    have hfin2 : ∀ w' lv' CL', (k.dead = false → St w0 D ([(d, row 82 [.slice (some ⟨bl, 0, none⟩) k.lasts.length k.lasts.length, lv', .int .i64 (k.ops + 1), .int .i64 k.stop]), (bl, row 38 (secs k.lasts))] ++ CL') w' →
        Sl 85 65 lv' (k.later.length + 1) (wvs k.later ++ .int .i64 a :: sv s) CL' → ∃ C', Disk d (k.write a s) C' ∧ St w0 D C' w') := by
      intro w' lv' CL' hdd hs' hsl'
      have hw : k.write a s = { k with ops := k.ops + 1, later := k.later ++ [(a, s)] } := by simp [Dk.write, ht, hdd]
      rw [hw]
      refine ⟨_, ⟨⟨ok.sec, ?_, ?_, hops, ok.some, ok.most⟩, bl, lv', CL', rfl, ?_⟩, hs'⟩
      · intro p hp
        simp only [List.mem_append, List.mem_singleton] at hp
        rcases hp with hp | rfl
        · exact ok.wrs p hp
        · exact ⟨ha, hs64⟩
      · have := ok.len; simp; omega
      · simp only [List.length_append, List.length_singleton, wvs_snoc]
        exact hsl'
    have hfin := hid hfin
    have hfin2 := hid hfin2
    have hlen : k.later.length ≤ 1073741824 := by have := ok.len; omega
    go_enter Try.func14, Try.ntmps14
    go_wp2_with (first
      | ((with_reducible refine gd_bx ?_); first | (refine wl_of rfl (hs.bxa (by first | exact ev rfl | rfl) ?_); intro bx w hbx hs) | (refine wl_of rfl (hs.bx1 (by first | exact ev rfl | exact evc | rfl) (by rfl) ?_); intro bx w hbx hs)) | ((with_reducible refine gd_ld ?_); first | refine wl_of rfl (hs.ld 0 rfl rfl (sc_of rfl) rfl ?_) | refine wl_of rfl (hs.ld 1 rfl rfl (sc_of rfl) rfl ?_) | refine wl_of rfl (hs.ld 2 rfl rfl (sc_of rfl) rfl ?_))
      | (go_at_call 37; refine (there_any (hs.at 3 rfl)).mono ?_; rintro e w' ⟨rfl, rfl⟩; rw [e1])
      | (go_at_call 38; go_must (refine (powered_any (A := [_, _, _]) (B := _ :: CL) (R := fun w' => ∃ C', Disk d (k.write a s) C' ∧ St w0 D C' w') hs.has hb0 (by omega) cf39 ?_ ?_).mono ?_); rotate_left 2; rintro e w ⟨rfl, hR⟩))
    case refine_1 => exact fun hdd w' hs' => hfin.out w' hdd (St.drop (A := [_, _, _]) (hs.trans hs'))
    case refine_2 =>
      intro hdd w' hs'
      refine (write1n (M := [_]) (CL := CL) (s := sv s) hs'.has (by rw [length_sv]; exact hs64) (one_sv s) hsl hlen).mono ?_
      rintro e w'' ⟨rfl, lv', CL', hs2, hsl'⟩
      exact ⟨rfl, hfin2.out w'' lv' CL' hdd (St.drop (A := [_, _, _]) ((hs.trans hs').trans hs2)) hsl'⟩
    go_ret
    exact ⟨rfl, hR⟩

theorem cf60 (args : Array Value) (w : World) : (callFunc 60 args).run Try.prog w = .ok (.enter 60 args) w := by go_simp
theorem cf43 (args : Array Value) (w : World) : (callFunc 43 args).run Try.prog w = .ok (.enter 43 args) w := by go_simp
theorem all_any (v : Value) (w : World) : Calls Try.prog 60 #[v] w fun e w' => e = .returned (.int .i64 64) ∧ w = w' := by
  go_enter Try.func60, Try.ntmps60
  go_wp2
  go_ret
  exact ⟨rfl, rfl⟩

def Dk.settled (k : Dk) (f : Nat → Nat) : List (List UInt8) := settleM f 0 k.later k.lasts
def Dk.flush (k : Dk) : Dk := if k.dead = true then k else { k with ops := k.ops + 1, lasts := k.settled fun _ => 64, later := [] }

theorem Dk.Ok.settled {k : Dk} (ok : k.Ok) {f : Nat → Nat} (hf : ∀ i, f i ≤ 64) : Sec (k.settled f) ∧ (k.settled f).length = k.lasts.length := settleM_ok hf k.later 0 k.lasts ok.sec ok.wrs

set_option maxHeartbeats 1000000 in
set_option maxRecDepth 4000 in
theorem flush1 {w0 : World} {d bl cap : Nat} {lasts : List (List UInt8)} {later : List (Nat × List UInt8)} {lv o st : Value} {CL : List (Nat × Obj)}
    (h : Has w0 ([(d, row 82 [.slice (some ⟨bl, 0, none⟩) lasts.length cap, lv, o, st]), (bl, row 38 (secs lasts))] ++ CL)) (hS : Sec lasts) (hW : Wrs lasts.length later) (hsl : Sl 85 65 lv later.length (wvs later) CL) (hn : later.length ≤ 1073741824) :
    Calls Try.prog 40 #[.pointer (some ⟨d, 0, none⟩)] w0 fun e w' => e = .returned (.tuple #[]) ∧
      St w0 (keys ([(d, row 82 [.slice (some ⟨bl, 0, none⟩) lasts.length cap, lv, o, st]), (bl, row 38 (secs lasts))] ++ CL))
        [(d, row 82 [.slice (some ⟨bl, 0, none⟩) lasts.length cap, .slice none 0 0, o, st]), (bl, row 38 (secs (settleM (fun _ => 64) 0 later lasts)))] w' := by
  have hc := settle_any (F := []) (first := #[]) (caps := #[]) (bs := fun _ => 64) (by simpa using h) hS hW hsl hn (fun _ => Nat.le_refl _) cf60
    (fun i _ C' w' _ => (all_any _ w').mono fun e w'' ⟨he, hw⟩ => ⟨he, 0, hw.symm⟩)
  simp only [List.append_nil] at hc
  have hc := hid hc
  go_enter Try.func40, Try.ntmps40
  go_wp2_with (go_at_call 42; refine hc.out.mono ?_; rintro e w ⟨rfl, hs⟩)
  go_end0
  exact ⟨rfl, hs⟩

set_option maxHeartbeats 1000000 in
set_option maxRecDepth 4000 in
theorem flush_any {w0 : World} {d : Nat} {k : Dk} {C : List (Nat × Obj)} (h : Has w0 C) (hd : Disk d k C) (hops : k.ops + 1 ≤ 1048576) :
    Calls Try.prog 15 #[.pointer (some ⟨d, 0, none⟩)] w0 fun e w' => e = .returned (.tuple #[]) ∧ ∃ C', Disk d k.flush C' ∧ St w0 (keys C) C' w' := by
  obtain ⟨ok, bl, lv, CL, rfl, hsl⟩ := hd
  have hb0 : 0 ≤ k.ops := by have := ok.len; omega
  have hlen : k.later.length ≤ 1073741824 := by have := ok.len; omega
  have hset := ok.settled (f := fun _ => 64) (fun _ => Nat.le_refl _)
  have hc := powered_any (A := []) (B := _ :: CL) (f := 40) (first := #[.pointer (some ⟨d, 0, none⟩)]) (caps := #[])
    (R := fun w' => ∃ C', Disk d k.flush C' ∧ St w0 (keys ([(d, row 82 [.slice (some ⟨bl, 0, none⟩) k.lasts.length k.lasts.length, lv, .int .i64 k.ops, .int .i64 k.stop]), (bl, row 38 (secs k.lasts))] ++ CL)) C' w') h hb0 (by omega) cf40 ?_ ?_
  · have hc := hid hc
    go_enter Try.func15, Try.ntmps15
    go_wp2_with (go_at_call 38; refine hc.out.mono ?_; rintro e w ⟨rfl, hR⟩)
    go_end0
    exact ⟨rfl, hR⟩
  · intro hdd w' hs'
    have e : k.flush = k := by simp [Dk.flush, Dk.dead, hdd]
    rw [e]
    exact ⟨_, ⟨ok, bl, lv, CL, rfl, hsl⟩, hs'⟩
  · intro hdd w' hs'
    have e : k.flush = { k with ops := k.ops + 1, lasts := k.settled fun _ => 64, later := [] } := by simp [Dk.flush, Dk.dead, hdd]
    rw [e]
    refine (flush1 hs'.has ok.sec ok.wrs hsl hlen).mono ?_
    rintro e w'' ⟨rfl, hs2⟩
    refine ⟨rfl, _, ⟨⟨hset.1, (by intro p hp; cases hp), (by simp; omega), hops, by rw [hset.2]; exact ok.some, by rw [hset.2]; exact ok.most⟩, bl, _, [], rfl, Sl.nil _ _⟩, ?_⟩
    have := hs'.trans hs2
    simp only [hset.2]
    exact this
end Go.Proofs.Ytclingkhdmhhoaa

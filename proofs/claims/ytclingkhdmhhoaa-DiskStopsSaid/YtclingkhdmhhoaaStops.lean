/- The walk of the law DiskStops. No condition. -/
import Derived.Test.YtclingkhdmhhoaaOpen5
import Derived.Laws.BitsLemmas
namespace Go.Proofs.Ytclingkhdmhhoaa
open Go.RowKit
set_option linter.unusedSimpArgs false

structure To (A B : List (Nat × Obj) → Prop) : Prop where
  f : ∀ C, A C → B C
theorem To.to {A B : List (Nat × Obj) → Prop} {C : List (Nat × Obj)} (t : To A B) (h : A C) : B C := t.f C h
/-- the same disk, that stops behind n -/
def Dk.halt (k : Dk) (n : Int) : Dk := { k with stop := n }
theorem halt_dead (k : Dk) {n : Int} (hn : 0 ≤ n) : (k.halt n).dead = decide (n ≤ k.ops) := by
  have : (n != -1) = true := by simp; omega
  show (n != -1 && decide (n ≤ k.ops)) = _
  rw [this]; rfl
theorem halt_write (k : Dk) {n a : Int} {s : List UInt8} (hn : 0 ≤ n) (hk : k.stop = -1) (h : k.ops < n) : (k.halt n).write a s = (k.write a s).halt n := by
  have h1 := halt_dead k hn
  have h2 := dead_new k hk
  have h3 : decide (n ≤ k.ops) = false := by simp; omega
  unfold Dk.write
  rw [h1, h2, h3]
  have h4 : (k.halt n).there a = k.there a := rfl
  rw [h4]
  split <;> rfl
theorem halt_write_no (k : Dk) {n a : Int} {s : List UInt8} (hn : 0 ≤ n) (h : ¬ k.ops < n) : (k.halt n).write a s = k.halt n := by
  have h1 := halt_dead k hn
  have h3 : decide (n ≤ k.ops) = true := by simp; omega
  unfold Dk.write
  rw [h1, h3]; simp
theorem halt_flush (k : Dk) {n : Int} (hn : 0 ≤ n) (hk : k.stop = -1) (h : k.ops < n) : (k.halt n).flush = k.flush.halt n := by
  have h1 := halt_dead k hn
  have h2 := dead_new k hk
  have h3 : decide (n ≤ k.ops) = false := by simp; omega
  unfold Dk.flush
  rw [h1, h2, h3]; rfl
theorem halt_flush_no (k : Dk) {n : Int} (hn : 0 ≤ n) (h : ¬ k.ops < n) : (k.halt n).flush = k.halt n := by
  have h1 := halt_dead k hn
  have h3 : decide (n ≤ k.ops) = true := by simp; omega
  unfold Dk.flush
  rw [h1, h3]; simp
theorem halt_crash (k : Dk) (n : Int) (kp : List Bool) (torn tear : Int) : (k.halt n).crash kp torn tear = k.crash kp torn tear := rfl
theorem halt_seen (k : Dk) (n : Int) : (k.halt n).seen = k.seen := rfl
theorem crash_dead (k : Dk) (kp : List Bool) (torn tear : Int) : (k.crash kp torn tear).dead = false := rfl
theorem stop_halt (k : Dk) {n : Int} (hn : 0 ≤ n) : k.stopAt n = k.halt n := by simp [Dk.stopAt, Dk.halt, hn]
theorem flush_stop (k : Dk) : k.flush.stop = k.stop := by unfold Dk.flush; split <;> rfl
theorem and31 (n : Int) : bits .and .i64 n 31 = n % 32 := by
  have h31 : (BitVec.ofInt 64 31).toNat = 2 ^ 5 - 1 := by decide
  have key : (BitVec.ofInt 64 n &&& BitVec.ofInt 64 31).toNat = (n % ((2 ^ 64 : Nat) : Int)).toNat % 2 ^ 5 := by
    rw [BitVec.toNat_and, BitVec.toNat_ofInt, h31, Nat.and_two_pow_sub_one_eq_mod]
  show IntKind.i64.wrap ((BitVec.ofInt 64 n &&& BitVec.ofInt 64 31).toNat : Nat) = n % 32
  rw [key, IntKind.wrap_i64]
  omega
theorem stop_halt_any {w0 : World} {d : Nat} {k : Dk} {C : List (Nat × Obj)} {n : Int} (h : Has w0 C) (hd : Disk d k C) (hn : 0 ≤ n) :
    Calls Try.prog 19 #[.pointer (some ⟨d, 0, none⟩), .int .i64 n] w0 fun e w' => e = .returned (.tuple #[]) ∧ ∃ C', Disk d (k.halt n) C' ∧ St w0 (keys C) C' w' := by
  have := stop_any h hd (n := n)
  rw [stop_halt k hn] at this
  exact this
theorem ops_o {w : World} {d : Nat} {k : Dk} {C : List (Nat × Obj)} {o : Int} (h : Has w C) (hd : Disk d k C) (ho : k.ops = o) :
    Calls Try.prog 20 #[.pointer (some ⟨d, 0, none⟩)] w fun e w' => e = .returned (.int .i64 o) ∧ w = w' := by subst ho; exact ops_any h hd
theorem dead_b {w : World} {d : Nat} {k : Dk} {C : List (Nat × Obj)} {b : Bool} (h : Has w C) (hd : Disk d k C) (hb : k.dead = b) :
    Calls Try.prog 21 #[.pointer (some ⟨d, 0, none⟩)] w fun e w' => e = .returned (.bool b) ∧ ∃ n, w' = w.drewN n := by subst hb; exact dead_k h hd
theorem sectors_s {w0 : World} {d : Nat} {k : Dk} {C : List (Nat × Obj)} {S : List (List UInt8)} (h : Has w0 C) (hd : Disk d k C) (hn : k.lasts.length = 20) (hS : k.seen = S) :
    Calls Try.prog 16 #[.pointer (some ⟨d, 0, none⟩)] w0 fun e w' => ∃ g cap junk, e = .returned (.slice (some ⟨g, 0, none⟩) 20 cap) ∧ St w0 (keys C) ((g, row 38 (secs S ++ junk)) :: C) w' := by
  subst hS
  refine (sectors_n h hd hn).mono ?_
  rintro e w' ⟨g, cap, junk, rfl, hs, _⟩
  exact ⟨g, cap, junk, rfl, hs⟩

theorem same_t {w0 : World} {ga gb ca cb : Nat} {A : List (List UInt8)} {ja jb : List Value} (ha : w0.heap[ga]? = some (row 38 (secs A ++ ja))) (hb : w0.heap[gb]? = some (row 38 (secs A ++ jb))) (hA : Sec A) (hn : A.length = 20) :
    Calls Try.prog 18 #[.slice (some ⟨ga, 0, none⟩) 20 ca, .slice (some ⟨gb, 0, none⟩) 20 cb] w0 fun e w' => e = .returned (.bool true) ∧ ∃ n, w' = w0.drewN n := by
  have := same_n ha hb hA hA hn hn (by decide) (by decide) (ca := ca) (cb := cb)
  rw [beq_self_eq_true] at this
  exact this
theorem write_u {w0 : World} {d : Nat} {k : Dk} {C : List (Nat × Obj)} {a : Int} {s : List UInt8} (h : Has w0 C) (hd : Disk d k C) (hops : k.ops + 1 ≤ 1048576) (hs64 : s.length = 64) :
    Calls Try.prog 14 #[.pointer (some ⟨d, 0, none⟩), .int .i64 a, .agg (sv s).toArray] w0 fun e w' => ∃ r : Int, e = .returned (.int .i64 r) ∧ ∃ C', Disk d (k.write a s) C' ∧ St w0 (keys C) C' w' :=
  (write_any h hd hops hs64).mono fun _ _ ⟨he, hc⟩ => ⟨_, he, hc⟩
theorem St.k1 {w0 w : World} {D : List Nat} {p q r : Nat × Obj} {C X : List (Nat × Obj)} (hs : St w0 D ([p] ++ (q :: C) ++ (r :: X)) w) : w.heap[q.1]? = some q.2 := hs.has.known q (by simp)
theorem St.k2 {w0 w : World} {D : List Nat} {p q r : Nat × Obj} {C X : List (Nat × Obj)} (hs : St w0 D ([p] ++ (q :: C) ++ (r :: X)) w) : w.heap[r.1]? = some r.2 := hs.has.known r (by simp)
theorem St.k3 {w0 w : World} {D : List Nat} {q r : Nat × Obj} {C X : List (Nat × Obj)} (hs : St w0 D ((q :: C) ++ (r :: X)) w) : w.heap[q.1]? = some q.2 := hs.has.known q (by simp)
theorem St.k4 {w0 w : World} {D : List Nat} {q r : Nat × Obj} {C X : List (Nat × Obj)} (hs : St w0 D ((q :: C) ++ (r :: X)) w) : w.heap[r.1]? = some r.2 := hs.has.known r (by simp)
theorem drop_mid1 {w0 w : World} {D : List Nat} {A B : List (Nat × Obj)} {q : Nat × Obj} (h : St w0 D (A ++ q :: B) w) : St w0 D (A ++ B) w :=
  St.dropMid (A := A) (C := [q]) (B := B) (by rw [List.append_assoc]; exact h)

set_option maxHeartbeats 40000000 in
set_option maxRecDepth 4000 in
theorem stops_walk {w0 : World} {cv : Value} {calls : List (Int × Wr)} {ops : Int} (hc : CallsAt w0 cv calls) (h60 : calls.length ≤ 60) :
    Calls Try.prog 4 #[cv, .int .i64 ops] w0 fun e w' => e = .returned (.bool true) ∧ Below w0.heap.size w0 w' := by
  obtain ⟨ca, cc, rfl, hc⟩ := hc
  have q1 : decide ((60 : Int) < (calls.length : Int)) = false := by simp; omega
  replace hc := hid hc
  obtain ⟨n, hn⟩ : ∃ n, bits .and .i64 ops 31 = n := ⟨_, rfl⟩
  have hn0 : 0 ≤ n := by rw [← hn, and31]; omega
  have k20 : (Dk.new 20).stop = -1 ∧ (Dk.new 20).lasts.length = 20 ∧ (Dk.new 20).ops = 0 := ⟨rfl, rfl, rfl⟩
  obtain ⟨k0, hk0⟩ : ∃ k0, Dk.new 20 = k0 := ⟨_, rfl⟩
  have hnew := fun w => new_any (w0 := w) (n := 20) (by decide) (by decide)
  rw [hk0] at k20
  simp only [hk0] at hnew
  replace hnew := hid hnew
  replace k20 := hid k20
  clear hk0
  go_enter Try.func4, Try.ntmps4
  go_wp2_with (first
    | (go_at_call 12; refine (speaks05 _).mono ?_; rintro e w ⟨rfl, hs⟩)
    | (go_at_call 13; first
      | (refine (hnew.out _).mono ?_; rintro e w ⟨d, C, rfl, hD, hs'⟩; replace hs := hs.trans hs'; clear hs')
      | ((refine (hnew.out _).mono ?_; rintro e w ⟨x, X, rfl, hX, hs'⟩; replace hs := St.call (A := C) (H := []) (B := []) (by rw [List.append_nil, List.append_nil]; exact hs) hs'; rw [List.append_nil] at hs; clear hs')))
    | (go_at_call 19; (refine (stop_halt_any hs.has.left hD hn0).mono ?_; rintro e w ⟨rfl, C2, hD2, hs'⟩; replace hs := St.callL hs hs'; clear hs' hD)))
  go_loopw [46] (fun i wr => ∃ (j : Nat) (kx : Dk) (C X : List (Nat × Obj)), j ≤ calls.length ∧ i = .int .i64 j ∧ Disk d (kx.halt n) C ∧ Disk x kx X ∧ kx.stop = -1 ∧ kx.lasts.length = 20 ∧ kx.ops ≤ j ∧ St w0 [] (C ++ X) wr) (fun i _ => calls.length - (intOf i).toNat)
  case atStart =>
    obtain ⟨a1, a2, a3⟩ := k20.out
    exact ⟨0, k0, _, _, Nat.zero_le _, rfl, hD2, hX, a1, a2, by omega, hs⟩
  case round =>
    clear hs hD2 hX C2 X k20 C hnew
    obtain ⟨j, kx, C, X, hj, rfl, hD, hX, hst, hl20, hop, hs⟩ := hrel
    replace hst := hid hst
    replace hl20 := hid hl20
    by_cases hlt : j < calls.length
    · obtain ⟨c, hcj⟩ : ∃ c, calls[j]? = some c := ⟨_, List.getElem?_eq_getElem hlt⟩
      obtain ⟨b, o, rfl, hcalls⟩ : ∃ b o, ca = some ⟨b, o, none⟩ ∧ ∀ i c, calls[i]? = some c → CallAt w0 b (o + i * 68) c := by
        rcases hc.out with rfl | h
        · simp at hlt
        · exact h
      obtain ⟨vs, hv68, hvc, hv1, hvw, hva, hvs, hs64⟩ := hcalls j c hcj
      have hop1 : kx.ops + 1 ≤ 1048576 := by omega
      have hop2 : (kx.halt n).ops + 1 ≤ 1048576 := hop1
      replace hva := hid hva
      replace hvs := hid hvs
      replace hvw := hid hvw
      replace hvc := hid (fun wr (H : List (Nat × Obj)) (h : St w0 [] H wr) jj v hv => h.out (hvc jj v hv))
      clear hcj hcalls
      replace hop1 := hid hop1
      replace hop2 := hid hop2
      by_cases h0 : c.1 = 0
      · have b0 : (c.1 == 0) = true := by simpa using h0
        by_cases hlo : kx.ops < n
        · have b1 : decide (kx.ops < n) = true := by simpa using hlo
          have hwd := halt_write kx (a := c.2.1) (s := c.2.2) hn0 hst.out hlo
          have hN1 := write_stop kx c.2.1 c.2.2
          have hN2 := congrArg List.length (write_lasts kx c.2.1 c.2.2)
          have hN3 := write_ops kx c.2.1 c.2.2
          obtain ⟨kN, hkN⟩ : ∃ kN, kx.write c.2.1 c.2.2 = kN := ⟨_, rfl⟩
          rw [hkN] at hwd hN1 hN2 hN3
          replace hN1 : kN.stop = -1 := hN1.trans hst.out
          replace hN2 : kN.lasts.length = 20 := by first | exact hN2.trans hl20.out | (rw [hN2]; exact hl20.out)
          replace hN3 : kN.ops ≤ ((j + 1 : Nat) : Int) := by omega
          replace hwd : ∀ C, Disk d ((kx.halt n).write c.2.1 c.2.2) C → Disk d (kN.halt n) C := fun _ h => by rw [hwd] at h; exact h
          have hwx : ∀ C, Disk x (kx.write c.2.1 c.2.2) C → Disk x kN C := fun _ h => by rw [hkN] at h; exact h
          have hwd := To.mk hwd
          have hwx := To.mk hwx
          clear hkN
          obtain ⟨q, hq⟩ : ∃ q, decide (n ≤ kN.ops) = q := ⟨_, rfl⟩
          replace hN1 := hid hN1
          replace hN2 := hid hN2
          replace hN3 := hid hN3
          go_wp2_with (first
            | ((with_reducible refine gd_ia (ty := 22) ?_); refine wl_of rfl (wp_of_run (ex_indexAddr st22 rfl rfl hlt _) ?_))
            | ((with_reducible refine gd_ld (ty := 31) ?_); refine wl_of rfl (wp_lda rfl ag31 hv68 (hvc.out _ _ hs) ?_))
            | ((with_reducible refine gd_al ?_); refine wl_of rfl (hs.al zc31 ?_); intro bw w hbw hs)
            | ((with_reducible refine gd_st (ty := 31) ?_); refine wl_of rfl (hs.sta 0 rfl rfl ag31 rfl hv68 hv1 (Nat.le_of_eq rfl) (splice_all (hv68.trans rfl)) ?_); intro w hs; replace hs : St w0 [] ([(bw, row 31 vs)] ++ C ++ X) w := hs)
            | ((with_reducible refine gd_ld (ty := 3) ?_); first | refine wl_of rfl (hs.ld 0 rfl rfl sc3 hvw.out ?_) | refine wl_of rfl (hs.ld 0 rfl rfl sc3 hva.out ?_))
            | ((with_reducible refine gd_ld (ty := 29) ?_); refine wl_of rfl (hs.lda 0 rfl rfl ag29 (by omega) hvs.out ?_))
            | (go_at_call 14; first
              | (refine (write_u hs.has.left.right hD hop2.out hs64).mono ?_; rintro e w ⟨rr, rfl, C', hD', hs'⟩; replace hD' := hwd.to hD'; replace hs := St.call (A := [_]) hs hs'; clear hs' hD; have hD := hD'; clear hD')
              | (refine (write_u hs.has.right hX hop1.out hs64).mono ?_; rintro e w ⟨rr, rfl, X', hX', hs'⟩; replace hX' := hwx.to hX'; replace hs := St.callR (A := [_] ++ _) hs hs'; clear hs' hX; have hX := hX'; clear hX'))
            | (go_at_call 15; first
              | (refine (flush_any hs.has.left.right hD hop2.out).mono ?_; rintro e w ⟨rfl, C', hD', hs'⟩; replace hD' := hwd.to hD'; replace hs := St.call (A := [_]) hs hs'; clear hs' hD; have hD := hD'; clear hD')
              | (refine (flush_any hs.has.right hX hop1.out).mono ?_; rintro e w ⟨rfl, X', hX', hs'⟩; replace hX' := hwx.to hX'; replace hs := St.callR (A := [_] ++ _) hs hs'; clear hs' hX; have hX := hX'; clear hX'))
            | (go_at_call 20; first
              | (refine (ops_o (o := kx.ops) hs.has.right hX rfl).mono ?_; rintro e w' ⟨rfl, rfl⟩)
              | (refine (ops_o (o := kN.ops) hs.has.right hX rfl).mono ?_; rintro e w' ⟨rfl, rfl⟩)
              | (refine (ops_o (o := kN.ops) hs.has.left.right hD rfl).mono ?_; rintro e w' ⟨rfl, rfl⟩))
            | (go_at_call 21; refine (dead_b hs.has.left.right hD ((halt_dead kN hn0).trans hq)).mono ?_; rintro e w ⟨rfl, hdr⟩; replace hs := hs.quiet hdr; clear hdr)
            | (go_at_call 16; first
              | (refine (sectors_s hs.has.left.right hD hN2.out (halt_seen kN n)).mono ?_; rintro e w ⟨g1, c1, j1, rfl, hs'⟩; replace hs := St.call (A := [_]) hs hs'; clear hs')
              | (refine (sectors_s hs.has.right hX hN2.out rfl).mono ?_; rintro e w ⟨g2, c2, j2, rfl, hs'⟩; replace hs := St.callR (A := [_] ++ (_ :: _)) hs hs'; clear hs'))
            | (go_at_call 18; refine (same_t hs.k1 hs.k2 hX.ok.seen (by rw [seen_len]; exact hN2.out)).mono ?_; rintro e w ⟨rfl, hdr⟩; replace hs := hs.quiet hdr; clear hdr))
          go_roundw
          case rel => exact ⟨j + 1, kN, _, _, hlt, by go_num, hD, hX, hN1.out, hN2.out, hN3.out, drop_mid1 (St.drop (A := [_, _]) hs)⟩
          case measure => simp [intOf]; omega
        · have b1 : decide (kx.ops < n) = false := by simpa using hlo
          have hwd := halt_write_no kx (a := c.2.1) (s := c.2.2) hn0 hlo
          have hwd := To.mk (fun (C : List (Nat × Obj)) (h : Disk d ((kx.halt n).write c.2.1 c.2.2) C) => (by rw [hwd] at h; exact h : Disk d (kx.halt n) C))
          have hwx : True := trivial
          have hN1 := hst.out
          have hN2 := hl20.out
          have hN3 : kx.ops ≤ ((j + 1 : Nat) : Int) := by omega
          have hq : decide (n ≤ kx.ops) = true := by simp; omega
          replace hN1 := hid hN1
          replace hN2 := hid hN2
          replace hN3 := hid hN3
          go_wp2_with (first
            | ((with_reducible refine gd_ia (ty := 22) ?_); refine wl_of rfl (wp_of_run (ex_indexAddr st22 rfl rfl hlt _) ?_))
            | ((with_reducible refine gd_ld (ty := 31) ?_); refine wl_of rfl (wp_lda rfl ag31 hv68 (hvc.out _ _ hs) ?_))
            | ((with_reducible refine gd_al ?_); refine wl_of rfl (hs.al zc31 ?_); intro bw w hbw hs)
            | ((with_reducible refine gd_st (ty := 31) ?_); refine wl_of rfl (hs.sta 0 rfl rfl ag31 rfl hv68 hv1 (Nat.le_of_eq rfl) (splice_all (hv68.trans rfl)) ?_); intro w hs; replace hs : St w0 [] ([(bw, row 31 vs)] ++ C ++ X) w := hs)
            | ((with_reducible refine gd_ld (ty := 3) ?_); first | refine wl_of rfl (hs.ld 0 rfl rfl sc3 hvw.out ?_) | refine wl_of rfl (hs.ld 0 rfl rfl sc3 hva.out ?_))
            | ((with_reducible refine gd_ld (ty := 29) ?_); refine wl_of rfl (hs.lda 0 rfl rfl ag29 (by omega) hvs.out ?_))
            | (go_at_call 14; first
              | (refine (write_u hs.has.left.right hD hop2.out hs64).mono ?_; rintro e w ⟨rr, rfl, C', hD', hs'⟩; replace hD' := hwd.to hD'; replace hs := St.call (A := [_]) hs hs'; clear hs' hD; have hD := hD'; clear hD')
              | (refine (write_u hs.has.right hX hop1.out hs64).mono ?_; rintro e w ⟨rr, rfl, X', hX', hs'⟩; replace hX' := hwx.to hX'; replace hs := St.callR (A := [_] ++ _) hs hs'; clear hs' hX; have hX := hX'; clear hX'))
            | (go_at_call 15; first
              | (refine (flush_any hs.has.left.right hD hop2.out).mono ?_; rintro e w ⟨rfl, C', hD', hs'⟩; replace hD' := hwd.to hD'; replace hs := St.call (A := [_]) hs hs'; clear hs' hD; have hD := hD'; clear hD')
              | (refine (flush_any hs.has.right hX hop1.out).mono ?_; rintro e w ⟨rfl, X', hX', hs'⟩; replace hX' := hwx.to hX'; replace hs := St.callR (A := [_] ++ _) hs hs'; clear hs' hX; have hX := hX'; clear hX'))
            | (go_at_call 20; first
              | (refine (ops_o (o := kx.ops) hs.has.right hX rfl).mono ?_; rintro e w' ⟨rfl, rfl⟩)
              | (refine (ops_o (o := kx.ops) hs.has.right hX rfl).mono ?_; rintro e w' ⟨rfl, rfl⟩)
              | (refine (ops_o (o := kx.ops) hs.has.left.right hD rfl).mono ?_; rintro e w' ⟨rfl, rfl⟩))
            | (go_at_call 21; refine (dead_b hs.has.left.right hD ((halt_dead kx hn0).trans hq)).mono ?_; rintro e w ⟨rfl, hdr⟩; replace hs := hs.quiet hdr; clear hdr)
            | (go_at_call 16; first
              | (refine (sectors_s hs.has.left.right hD hN2.out (halt_seen kx n)).mono ?_; rintro e w ⟨g1, c1, j1, rfl, hs'⟩; replace hs := St.call (A := [_]) hs hs'; clear hs')
              | (refine (sectors_s hs.has.right hX hN2.out rfl).mono ?_; rintro e w ⟨g2, c2, j2, rfl, hs'⟩; replace hs := St.callR (A := [_] ++ (_ :: _)) hs hs'; clear hs'))
            | (go_at_call 18; refine (same_t hs.k1 hs.k2 hX.ok.seen (by rw [seen_len]; exact hN2.out)).mono ?_; rintro e w ⟨rfl, hdr⟩; replace hs := hs.quiet hdr; clear hdr))
          go_roundw
          case rel => exact ⟨j + 1, kx, _, _, hlt, by go_num, hD, hX, hN1.out, hN2.out, hN3.out, drop_mid1 (St.drop (A := [_, _]) hs)⟩
          case measure => simp [intOf]; omega
      · have b0 : (c.1 == 0) = false := by simpa using h0
        by_cases h1 : c.1 = 1
        · have b2 : (c.1 == 1) = true := by simpa using h1
          by_cases hlo : kx.ops < n
          · have b1 : decide (kx.ops < n) = true := by simpa using hlo
            have hwd := halt_flush kx hn0 hst.out hlo
            have hN1 := flush_stop kx
            have hN2 := flush_len kx
            have hN3 := flush_ops kx
            obtain ⟨kN, hkN⟩ : ∃ kN, kx.flush = kN := ⟨_, rfl⟩
            rw [hkN] at hwd hN1 hN2 hN3
            replace hN1 : kN.stop = -1 := hN1.trans hst.out
            replace hN2 : kN.lasts.length = 20 := by first | exact hN2.trans hl20.out | (rw [hN2]; exact hl20.out)
            replace hN3 : kN.ops ≤ ((j + 1 : Nat) : Int) := by omega
            replace hwd : ∀ C, Disk d ((kx.halt n).flush) C → Disk d (kN.halt n) C := fun _ h => by rw [hwd] at h; exact h
            have hwx : ∀ C, Disk x (kx.flush) C → Disk x kN C := fun _ h => by rw [hkN] at h; exact h
            have hwd := To.mk hwd
            have hwx := To.mk hwx
            clear hkN
            obtain ⟨q, hq⟩ : ∃ q, decide (n ≤ kN.ops) = q := ⟨_, rfl⟩
            replace hN1 := hid hN1
            replace hN2 := hid hN2
            replace hN3 := hid hN3
            go_wp2_with (first
              | ((with_reducible refine gd_ia (ty := 22) ?_); refine wl_of rfl (wp_of_run (ex_indexAddr st22 rfl rfl hlt _) ?_))
              | ((with_reducible refine gd_ld (ty := 31) ?_); refine wl_of rfl (wp_lda rfl ag31 hv68 (hvc.out _ _ hs) ?_))
              | ((with_reducible refine gd_al ?_); refine wl_of rfl (hs.al zc31 ?_); intro bw w hbw hs)
              | ((with_reducible refine gd_st (ty := 31) ?_); refine wl_of rfl (hs.sta 0 rfl rfl ag31 rfl hv68 hv1 (Nat.le_of_eq rfl) (splice_all (hv68.trans rfl)) ?_); intro w hs; replace hs : St w0 [] ([(bw, row 31 vs)] ++ C ++ X) w := hs)
              | ((with_reducible refine gd_ld (ty := 3) ?_); first | refine wl_of rfl (hs.ld 0 rfl rfl sc3 hvw.out ?_) | refine wl_of rfl (hs.ld 0 rfl rfl sc3 hva.out ?_))
              | ((with_reducible refine gd_ld (ty := 29) ?_); refine wl_of rfl (hs.lda 0 rfl rfl ag29 (by omega) hvs.out ?_))
              | (go_at_call 14; first
                | (refine (write_u hs.has.left.right hD hop2.out hs64).mono ?_; rintro e w ⟨rr, rfl, C', hD', hs'⟩; replace hD' := hwd.to hD'; replace hs := St.call (A := [_]) hs hs'; clear hs' hD; have hD := hD'; clear hD')
                | (refine (write_u hs.has.right hX hop1.out hs64).mono ?_; rintro e w ⟨rr, rfl, X', hX', hs'⟩; replace hX' := hwx.to hX'; replace hs := St.callR (A := [_] ++ _) hs hs'; clear hs' hX; have hX := hX'; clear hX'))
              | (go_at_call 15; first
                | (refine (flush_any hs.has.left.right hD hop2.out).mono ?_; rintro e w ⟨rfl, C', hD', hs'⟩; replace hD' := hwd.to hD'; replace hs := St.call (A := [_]) hs hs'; clear hs' hD; have hD := hD'; clear hD')
                | (refine (flush_any hs.has.right hX hop1.out).mono ?_; rintro e w ⟨rfl, X', hX', hs'⟩; replace hX' := hwx.to hX'; replace hs := St.callR (A := [_] ++ _) hs hs'; clear hs' hX; have hX := hX'; clear hX'))
              | (go_at_call 20; first
                | (refine (ops_o (o := kx.ops) hs.has.right hX rfl).mono ?_; rintro e w' ⟨rfl, rfl⟩)
                | (refine (ops_o (o := kN.ops) hs.has.right hX rfl).mono ?_; rintro e w' ⟨rfl, rfl⟩)
                | (refine (ops_o (o := kN.ops) hs.has.left.right hD rfl).mono ?_; rintro e w' ⟨rfl, rfl⟩))
              | (go_at_call 21; refine (dead_b hs.has.left.right hD ((halt_dead kN hn0).trans hq)).mono ?_; rintro e w ⟨rfl, hdr⟩; replace hs := hs.quiet hdr; clear hdr)
              | (go_at_call 16; first
                | (refine (sectors_s hs.has.left.right hD hN2.out (halt_seen kN n)).mono ?_; rintro e w ⟨g1, c1, j1, rfl, hs'⟩; replace hs := St.call (A := [_]) hs hs'; clear hs')
                | (refine (sectors_s hs.has.right hX hN2.out rfl).mono ?_; rintro e w ⟨g2, c2, j2, rfl, hs'⟩; replace hs := St.callR (A := [_] ++ (_ :: _)) hs hs'; clear hs'))
              | (go_at_call 18; refine (same_t hs.k1 hs.k2 hX.ok.seen (by rw [seen_len]; exact hN2.out)).mono ?_; rintro e w ⟨rfl, hdr⟩; replace hs := hs.quiet hdr; clear hdr))
            go_roundw
            case rel => exact ⟨j + 1, kN, _, _, hlt, by go_num, hD, hX, hN1.out, hN2.out, hN3.out, drop_mid1 (St.drop (A := [_, _]) hs)⟩
            case measure => simp [intOf]; omega
          · have b1 : decide (kx.ops < n) = false := by simpa using hlo
            have hwd := halt_flush_no kx hn0 hlo
            have hwd := To.mk (fun (C : List (Nat × Obj)) (h : Disk d ((kx.halt n).flush) C) => (by rw [hwd] at h; exact h : Disk d (kx.halt n) C))
            have hwx : True := trivial
            have hN1 := hst.out
            have hN2 := hl20.out
            have hN3 : kx.ops ≤ ((j + 1 : Nat) : Int) := by omega
            have hq : decide (n ≤ kx.ops) = true := by simp; omega
            replace hN1 := hid hN1
            replace hN2 := hid hN2
            replace hN3 := hid hN3
            go_wp2_with (first
              | ((with_reducible refine gd_ia (ty := 22) ?_); refine wl_of rfl (wp_of_run (ex_indexAddr st22 rfl rfl hlt _) ?_))
              | ((with_reducible refine gd_ld (ty := 31) ?_); refine wl_of rfl (wp_lda rfl ag31 hv68 (hvc.out _ _ hs) ?_))
              | ((with_reducible refine gd_al ?_); refine wl_of rfl (hs.al zc31 ?_); intro bw w hbw hs)
              | ((with_reducible refine gd_st (ty := 31) ?_); refine wl_of rfl (hs.sta 0 rfl rfl ag31 rfl hv68 hv1 (Nat.le_of_eq rfl) (splice_all (hv68.trans rfl)) ?_); intro w hs; replace hs : St w0 [] ([(bw, row 31 vs)] ++ C ++ X) w := hs)
              | ((with_reducible refine gd_ld (ty := 3) ?_); first | refine wl_of rfl (hs.ld 0 rfl rfl sc3 hvw.out ?_) | refine wl_of rfl (hs.ld 0 rfl rfl sc3 hva.out ?_))
              | ((with_reducible refine gd_ld (ty := 29) ?_); refine wl_of rfl (hs.lda 0 rfl rfl ag29 (by omega) hvs.out ?_))
              | (go_at_call 14; first
                | (refine (write_u hs.has.left.right hD hop2.out hs64).mono ?_; rintro e w ⟨rr, rfl, C', hD', hs'⟩; replace hD' := hwd.to hD'; replace hs := St.call (A := [_]) hs hs'; clear hs' hD; have hD := hD'; clear hD')
                | (refine (write_u hs.has.right hX hop1.out hs64).mono ?_; rintro e w ⟨rr, rfl, X', hX', hs'⟩; replace hX' := hwx.to hX'; replace hs := St.callR (A := [_] ++ _) hs hs'; clear hs' hX; have hX := hX'; clear hX'))
              | (go_at_call 15; first
                | (refine (flush_any hs.has.left.right hD hop2.out).mono ?_; rintro e w ⟨rfl, C', hD', hs'⟩; replace hD' := hwd.to hD'; replace hs := St.call (A := [_]) hs hs'; clear hs' hD; have hD := hD'; clear hD')
                | (refine (flush_any hs.has.right hX hop1.out).mono ?_; rintro e w ⟨rfl, X', hX', hs'⟩; replace hX' := hwx.to hX'; replace hs := St.callR (A := [_] ++ _) hs hs'; clear hs' hX; have hX := hX'; clear hX'))
              | (go_at_call 20; first
                | (refine (ops_o (o := kx.ops) hs.has.right hX rfl).mono ?_; rintro e w' ⟨rfl, rfl⟩)
                | (refine (ops_o (o := kx.ops) hs.has.right hX rfl).mono ?_; rintro e w' ⟨rfl, rfl⟩)
                | (refine (ops_o (o := kx.ops) hs.has.left.right hD rfl).mono ?_; rintro e w' ⟨rfl, rfl⟩))
              | (go_at_call 21; refine (dead_b hs.has.left.right hD ((halt_dead kx hn0).trans hq)).mono ?_; rintro e w ⟨rfl, hdr⟩; replace hs := hs.quiet hdr; clear hdr)
              | (go_at_call 16; first
                | (refine (sectors_s hs.has.left.right hD hN2.out (halt_seen kx n)).mono ?_; rintro e w ⟨g1, c1, j1, rfl, hs'⟩; replace hs := St.call (A := [_]) hs hs'; clear hs')
                | (refine (sectors_s hs.has.right hX hN2.out rfl).mono ?_; rintro e w ⟨g2, c2, j2, rfl, hs'⟩; replace hs := St.callR (A := [_] ++ (_ :: _)) hs hs'; clear hs'))
              | (go_at_call 18; refine (same_t hs.k1 hs.k2 hX.ok.seen (by rw [seen_len]; exact hN2.out)).mono ?_; rintro e w ⟨rfl, hdr⟩; replace hs := hs.quiet hdr; clear hdr))
            go_roundw
            case rel => exact ⟨j + 1, kx, _, _, hlt, by go_num, hD, hX, hN1.out, hN2.out, hN3.out, drop_mid1 (St.drop (A := [_, _]) hs)⟩
            case measure => simp [intOf]; omega
        · have b2 : (c.1 == 1) = false := by simpa using h1
          have hwd : True := trivial
          have hwx : True := trivial
          have hN1 := hst.out
          have hN2 := hl20.out
          have hN3 : kx.ops ≤ ((j + 1 : Nat) : Int) := by omega
          obtain ⟨q, hq⟩ : ∃ q, decide (n ≤ kx.ops) = q := ⟨_, rfl⟩
          replace hN1 := hid hN1
          replace hN2 := hid hN2
          replace hN3 := hid hN3
          go_wp2_with (first
            | ((with_reducible refine gd_ia (ty := 22) ?_); refine wl_of rfl (wp_of_run (ex_indexAddr st22 rfl rfl hlt _) ?_))
            | ((with_reducible refine gd_ld (ty := 31) ?_); refine wl_of rfl (wp_lda rfl ag31 hv68 (hvc.out _ _ hs) ?_))
            | ((with_reducible refine gd_al ?_); refine wl_of rfl (hs.al zc31 ?_); intro bw w hbw hs)
            | ((with_reducible refine gd_st (ty := 31) ?_); refine wl_of rfl (hs.sta 0 rfl rfl ag31 rfl hv68 hv1 (Nat.le_of_eq rfl) (splice_all (hv68.trans rfl)) ?_); intro w hs; replace hs : St w0 [] ([(bw, row 31 vs)] ++ C ++ X) w := hs)
            | ((with_reducible refine gd_ld (ty := 3) ?_); first | refine wl_of rfl (hs.ld 0 rfl rfl sc3 hvw.out ?_) | refine wl_of rfl (hs.ld 0 rfl rfl sc3 hva.out ?_))
            | ((with_reducible refine gd_ld (ty := 29) ?_); refine wl_of rfl (hs.lda 0 rfl rfl ag29 (by omega) hvs.out ?_))
            | (go_at_call 14; first
              | (refine (write_u hs.has.left.right hD hop2.out hs64).mono ?_; rintro e w ⟨rr, rfl, C', hD', hs'⟩; replace hD' := hwd.to hD'; replace hs := St.call (A := [_]) hs hs'; clear hs' hD; have hD := hD'; clear hD')
              | (refine (write_u hs.has.right hX hop1.out hs64).mono ?_; rintro e w ⟨rr, rfl, X', hX', hs'⟩; replace hX' := hwx.to hX'; replace hs := St.callR (A := [_] ++ _) hs hs'; clear hs' hX; have hX := hX'; clear hX'))
            | (go_at_call 15; first
              | (refine (flush_any hs.has.left.right hD hop2.out).mono ?_; rintro e w ⟨rfl, C', hD', hs'⟩; replace hD' := hwd.to hD'; replace hs := St.call (A := [_]) hs hs'; clear hs' hD; have hD := hD'; clear hD')
              | (refine (flush_any hs.has.right hX hop1.out).mono ?_; rintro e w ⟨rfl, X', hX', hs'⟩; replace hX' := hwx.to hX'; replace hs := St.callR (A := [_] ++ _) hs hs'; clear hs' hX; have hX := hX'; clear hX'))
            | (go_at_call 20; first
              | (refine (ops_o (o := kx.ops) hs.has.right hX rfl).mono ?_; rintro e w' ⟨rfl, rfl⟩)
              | (refine (ops_o (o := kx.ops) hs.has.right hX rfl).mono ?_; rintro e w' ⟨rfl, rfl⟩)
              | (refine (ops_o (o := kx.ops) hs.has.left.right hD rfl).mono ?_; rintro e w' ⟨rfl, rfl⟩))
            | (go_at_call 21; refine (dead_b hs.has.left.right hD ((halt_dead kx hn0).trans hq)).mono ?_; rintro e w ⟨rfl, hdr⟩; replace hs := hs.quiet hdr; clear hdr)
            | (go_at_call 16; first
              | (refine (sectors_s hs.has.left.right hD hN2.out (halt_seen kx n)).mono ?_; rintro e w ⟨g1, c1, j1, rfl, hs'⟩; replace hs := St.call (A := [_]) hs hs'; clear hs')
              | (refine (sectors_s hs.has.right hX hN2.out rfl).mono ?_; rintro e w ⟨g2, c2, j2, rfl, hs'⟩; replace hs := St.callR (A := [_] ++ (_ :: _)) hs hs'; clear hs'))
            | (go_at_call 18; refine (same_t hs.k1 hs.k2 hX.ok.seen (by rw [seen_len]; exact hN2.out)).mono ?_; rintro e w ⟨rfl, hdr⟩; replace hs := hs.quiet hdr; clear hdr))
          go_roundw
          case rel => exact ⟨j + 1, kx, _, _, hlt, by go_num, hD, hX, hN1.out, hN2.out, hN3.out, drop_mid1 (St.drop (A := [_, _]) hs)⟩
          case measure => simp [intOf]; omega
    · obtain rfl : j = calls.length := by omega
      go_wp2_with (first
        | (go_at_call 17; first
          | (refine (crash_nil hs.has.left hD).mono ?_; rintro e w ⟨rfl, C3, hD3, hs'⟩; rw [halt_crash] at hD3; replace hs := St.callL hs hs'; clear hs' hD)
          | (refine (crash_nil hs.has.right hX).mono ?_; rintro e w ⟨rfl, X3, hX3, hs'⟩; replace hs := St.callR hs hs'; clear hs' hX))
        | (go_at_call 21; refine (dead_b hs.has.left hD3 (crash_dead _ _ _ _)).mono ?_; rintro e w ⟨rfl, hq⟩; replace hs := hs.quiet hq; clear hq)
        | (go_at_call 16; first
          | (refine (sectors_s hs.has.left hD3 (by rw [crash_len]; exact hl20.out) rfl).mono ?_; rintro e w ⟨g1, c1, j1, rfl, hs'⟩; replace hs := St.callL hs hs'; clear hs')
          | (refine (sectors_s (St.drop (A := _ :: C3) hs).has hX3 (by rw [crash_len]; exact hl20.out) rfl).mono ?_; rintro e w ⟨g2, c2, j2, rfl, hs'⟩; replace hs := St.callR (A := _ :: C3) hs hs'; clear hs'))
        | (go_at_call 18; refine (same_t hs.k3 hs.k4 hX3.ok.seen (by rw [seen_len, crash_len]; exact hl20.out)).mono ?_; rintro e w ⟨rfl, hdr⟩; replace hs := hs.quiet hdr; clear hdr))
      go_ret
      exact ⟨rfl, hs.below⟩
end Go.Proofs.Ytclingkhdmhhoaa

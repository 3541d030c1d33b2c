/- The walk of the law's example of package disk. No condition. -/
import Derived.Test.YtclingkhdmhhoaaBack
namespace Go.Proofs.Ytclingkhdmhhoaa
open Go.RowKit
set_option linter.unusedSimpArgs false

def seven : List UInt8 := 7 :: List.replicate 63 0
theorem seven_len : seven.length = 64 := rfl
theorem nought_len : nought.length = 64 := rfl
theorem run_build38_7 (w : World) : (Instr.build 38 #[(0, .int .u8 7)]).run Try.prog w = .ok (.agg (sv seven).toArray) w := by
  go_simp
  rfl
theorem run_build38_n (w : World) : (Instr.build 38 #[]).run Try.prog w = .ok (.agg (sv nought).toArray) w := by
  rw [sv_nought]; exact run_build38_0 w
theorem new3_there : (Dk.new 3).there 1 = true := by decide
theorem new3_read : ((Dk.new 3).write 1 seven).read 1 = (seven, 0) := by decide
theorem new3_crash : (((Dk.new 3).write 1 seven).crash [] (-1) 0).read 1 = (nought, 0) := by decide
theorem read_r {w0 : World} {d : Nat} {k : Dk} {C : List (Nat × Obj)} (h : Has w0 C) (hd : Disk d k C) {a : Int} {s : List UInt8} {f : Int} (hr : k.read a = (s, f)) :
    Calls Try.prog 36 #[.pointer (some ⟨d, 0, none⟩), .int .i64 a] w0 fun e w' => e = .returned (.tuple #[.agg (sv s).toArray, .int .i64 f]) ∧ St w0 (keys C) C w' := by
  have := read_any h hd a
  rw [hr] at this
  exact this
theorem write_ok {w0 : World} {d : Nat} {k : Dk} {C : List (Nat × Obj)} {a : Int} {s : List UInt8} (h : Has w0 C) (hd : Disk d k C) (hops : k.ops + 1 ≤ 1048576) (hs64 : s.length = 64) (ht : k.there a = true) :
    Calls Try.prog 14 #[.pointer (some ⟨d, 0, none⟩), .int .i64 a, .agg (sv s).toArray] w0 fun e w' => e = .returned (.int .i64 0) ∧
      ∃ C', Disk d (k.write a s) C' ∧ St w0 (keys C) C' w' := by
  have := write_any h hd hops hs64 (a := a)
  rw [if_pos ht] at this
  exact this
theorem crash_nil {w0 : World} {d : Nat} {k : Dk} {C : List (Nat × Obj)} {torn tear : Int} (h : Has w0 C) (hd : Disk d k C) :
    Calls Try.prog 17 #[.pointer (some ⟨d, 0, none⟩), .slice none 0 0, .int .i64 torn, .int .i64 tear] w0 fun e w' => e = .returned (.tuple #[]) ∧ ∃ C', Disk d (k.crash [] torn tear) C' ∧ St w0 (keys C) C' w' :=
  crash_any h hd (by simp) fun _ _ => ⟨none, 0, rfl, .inl rfl⟩

section
variable {P : Program} {ops : Array Oper} {Q : Exit → Act → World → Prop} {a : Act} {w : World} {rest : List Oper} {o : Oper} {dst : Option Tmp} {t ty ty2 : TypeId} {pos : String} {aft : Array Edge} {g : Option (Nat × Bool)} {x y : Operand} {bo : BinOp}
theorem gd_bn (h : wpList P ops Q (⟨dst, .binOp bo ty x y ty2, t, pos, aft, g⟩ :: rest) a w) : wpList P ops Q (⟨dst, .binOp bo ty x y ty2, t, pos, aft, g⟩ :: rest) a w := h
end

set_option maxHeartbeats 1000000 in
set_option maxRecDepth 4000 in
theorem speaks05 (w0 : World) : Calls Try.prog 12 #[] w0 fun e w' => e = .returned (.bool true) ∧ St w0 [] [] w' := by
  have hs := St.nothing w0
  have f1 := hid new3_there
  have f2 := hid new3_read
  have f3 := hid new3_crash
  have f4 : (Dk.new 3).ops + 1 ≤ 1048576 := by decide
  have hb7 := fun w => run_eql_arr (P := Try.prog) (w := w) (kk := .u8) (t := 38) Try.underlying38 sc5 Try.underlying5 seven_len seven_len
  have hb0 := fun w => run_eql_arr (P := Try.prog) (w := w) (kk := .u8) (t := 38) Try.underlying38 sc5 Try.underlying5 nought_len nought_len
  simp only [beq_self_eq_true] at hb7 hb0
  replace hb7 := hid hb7
  replace hb0 := hid hb0
  have hl7 : (sv seven).length = 64 := by rw [length_sv]; rfl
  have hl0 : (sv nought).length = 64 := by rw [length_sv]; rfl
  have hc7 : cut (sv seven) 0 64 = sv seven := by simp [cut, ← hl7]
  have hc0 : cut (sv nought) 0 64 = sv nought := by simp [cut, ← hl0]
  replace hc7 := hid hc7
  replace hc0 := hid hc0
  replace f4 := hid f4
  go_enter Try.func12, Try.ntmps12
  go_wp2_with (first
    | (go_at_call 13; refine (new_any (n := 3) (by decide) (by decide)).mono ?_; rintro e w ⟨d, C, rfl, hD, hs'⟩; replace hs := hs.trans hs'; clear hs'; generalize Dk.new 3 = k0 at f1 f2 f3 f4 hD)
    | ((with_reducible refine gd_bd (ty := 38) ?_); refine wl_on rfl (wp_of_run (ex_build (by rfl) (run_build38_7 _)) ?_))
    | (go_at_call 14; refine (write_ok hs.has hD f4.out seven_len f1.out).mono ?_; rintro e w ⟨rfl, C2, hD2, hs'⟩; replace hs := hs.trans hs'; clear hs' hD)
    | (go_at_call 36; first
      | (refine (read_r hs.has hD2 f2.out).mono ?_; rintro e w ⟨rfl, hs'⟩; replace hs := hs.trans hs'; clear hs' f2)
      | (refine (read_r (St.drop (A := [_]) hs).has hD3 f3.out).mono ?_; rintro e w ⟨rfl, hs'⟩; replace hs := St.callR (A := [_]) hs hs'; clear hs'))
    | ((with_reducible refine gd_al (ty := 38) ?_); refine wl_of rfl (hs.al zc38 ?_); intro b w hb hs)
    | ((with_reducible refine gd_st (ty := 38) ?_); first
      | (refine wl_of rfl (hs.sta 0 rfl rfl ag38 rfl hl7 (one_sv _) (by rw [length_zsec]; decide) (splice_all (hl7.trans rfl)) ?_); intro w hs)
      | (refine wl_of rfl (hs.sta 0 rfl rfl ag38 rfl hl0 (one_sv _) (by rw [length_zsec]; decide) (splice_all (hl0.trans rfl)) ?_); intro w hs))
    | ((with_reducible refine gd_ld (ty := 38) ?_); first
      | refine wl_of rfl (hs.lda 1 rfl rfl ag38 (by rw [hl7]; decide) hc7.out ?_)
      | refine wl_on rfl (hs.lda 0 rfl rfl ag38 (by rw [hl0]; decide) hc0.out ?_))
    | ((with_reducible refine gd_bd (ty := 38) ?_); first
      | refine wl_of rfl (wp_of_run (ex_build (by rfl) (run_build38_7 _)) ?_)
      | refine wl_on rfl (wp_of_run (ex_build (by rfl) (run_build38_n _)) ?_))
    | ((with_reducible refine gd_bn (bo := .eql) (ty := 38) ?_); first
      | refine wl_of rfl (wp_of_run (ex_bin rfl rfl (eqguard38 _ _ _ _ _ _) (hb7.out _)) ?_)
      | refine wl_on rfl (wp_of_run (ex_bin rfl rfl (eqguard38 _ _ _ _ _ _) (hb0.out _)) ?_))
    | (go_at_call 17; refine (crash_nil (St.drop (A := [_]) hs).has hD2).mono ?_; rintro e w ⟨rfl, C3, hD3, hs'⟩; replace hs := St.callR (A := [_]) hs hs'; clear hs' hD2))
  go_ret
  exact ⟨rfl, St.keep (B := _) (A := []) hs⟩
end Go.Proofs.Ytclingkhdmhhoaa

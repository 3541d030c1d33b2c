/- The walks of slices.Grow and slices.Concat on bytes. No condition. -/
import Derived.Test.YtclingkhdmhhoaaSnB
import Derived.Lib.AppendZerosOnto
namespace Go.Proofs.Ytclingkhdmhhoaa
open Go.RowKit
set_option linter.unusedSimpArgs false
set_option linter.unusedVariables false

theorem run_appz {w0 w : World} {D : List Nat} {H : List (Nat × Obj)} (hs : St w0 D H w) (ty : TypeId) (k : Nat) (h0 : 0 < k) (hk : k ≤ 1048576) :
    ∃ g cap junk w', (Builtin.append_ #[43, 3] ty #[.slice none 0 0, .int .i64 k]).run Try.prog w = .ok (.slice (some ⟨g, 0, none⟩) k cap) w' ∧ St w0 D ((g, row 5 junk) :: H) w' ∧ junk.length = cap ∧ k ≤ cap ∧ cap ≤ maxLen := by
  obtain ⟨i, z, hi, hz, hsz, hbs, hzs⟩ := el43.inf
  have hr := Lib.run_append_grow_zeros (P := Try.prog) w 43 3 ty 5 i z .i64 .i64 el43.und Try.underlying3 hi hz none 0 0 [] (by simp [Builtin.firstCells]) k h0 (by omega) (by omega) (by omega) (by rw [hbs]; omega) (by rw [hbs, Nat.zero_add]; exact growslice_fits (by omega) (by omega))
  simp only [Nat.zero_add] at hr
  have hge := grownCap_ge w k 0 5
  have hle := grownCap_le_maxLen w k 0 5 (by unfold maxLen; omega)
  refine ⟨_, _, (Builtin.zeroCells z.cells k ++ Builtin.zeroCells z.cells (grownCap w k 0 5 - k)).toList, _, hr, ?_, ?_, hge, hle⟩
  · have h2 := hs.drew.alloc (row 5 (Builtin.zeroCells z.cells k ++ Builtin.zeroCells z.cells (grownCap w k 0 5 - k)).toList)
    have e1 : Obj.cells (([] : List Value).toArray ++ Builtin.zeroCells z.cells k ++ Builtin.zeroCells z.cells (grownCap w k 0 5 - k)) 5 = row 5 (Builtin.zeroCells z.cells k ++ Builtin.zeroCells z.cells (grownCap w k 0 5 - k)).toList := by
      unfold row; simp
    rw [e1]
    exact h2
  · simp [size_zeroCells, hzs]; omega
theorem gd_apz {P : Program} {ops : Array Oper} {rest : List Oper} {w : World} {a : Act} {Q : Exit → Act → World → Prop} {dst : Option Tmp} {t : TypeId} {pos : String} {aft : Array Edge} {g : Option (Nat × Bool)} {x y : Operand} (h : wpList P ops Q (⟨dst, .call { callee := .builtin .append, args := #[x, y], argTypes := #[43, 3] }, t, pos, aft, g⟩ :: rest) a w) :
    wpList P ops Q (⟨dst, .call { callee := .builtin .append, args := #[x, y], argTypes := #[43, 3] }, t, pos, aft, g⟩ :: rest) a w := h
theorem St.appz {w0 w : World} {D : List Nat} {H : List (Nat × Obj)} (hs : St w0 D H w) {a : Act} {K : Act → World → Prop} {Q : Exit → Act → World → Prop} {dst : Option Tmp} {ty : TypeId} {pos : String} {aft : Array Edge} {gg : Option (Nat × Bool)} {x y : Operand} {k : Nat}
    (hx : a.eval x = .slice none 0 0) (hy : a.eval y = .int .i64 k) (h0 : 0 < k) (hk : k ≤ 1048576)
    (h : ∀ g cap junk w', St w0 D ((g, row 5 junk) :: H) w' → Hid (junk.length = cap) → k ≤ cap → cap ≤ maxLen → K (a.put dst (.slice (some ⟨g, 0, none⟩) k cap)) w') :
    Oper.wp Try.prog ⟨dst, .call { callee := .builtin .append, args := #[x, y], argTypes := #[43, 3] }, ty, pos, aft, gg⟩ a w K Q := by
  obtain ⟨g, cap, junk, w', hr, h1, h2, h3, h4⟩ := run_appz hs ty k h0 hk
  refine wp_of_run (v := .slice (some ⟨g, 0, none⟩) k cap) (w' := w') ?_ (h _ _ _ _ h1 (hid h2) h3 h4)
  simp [execOp, resolve, invoke, builtin, hx, hy, hr]
set_option maxHeartbeats 1000000 in
set_option maxRecDepth 10000 in
theorem grow_any {w0 : World} {k : Nat} (h0 : 0 < k) (hk : k ≤ 1048576) :
    Calls Try.prog 93 #[.slice none 0 0, .int .i64 k] w0 fun e w' => ∃ v C, e = .returned v ∧ Hid (Sl 5 1 v 0 (sv []) C) ∧ St w0 [] C w' := by
  have hs := St.nothing w0
  go_enter Try.func93, Try.ntmps93
  go_wp2_with (first
    | ((with_reducible refine gd_apz ?_); refine wl_of rfl (hs.appz (by first | exact ev rfl | rfl) (by first | exact ev rfl | rfl) h0 hk ?_); intro g cap junk w hs hj hc1 hc2))
  go_ret
  exact ⟨_, _, rfl, hid (Sl.made (xs := []) (junk := junk) (by simp) (by simpa using hj.out) hc2 (Nat.zero_le _)), hs⟩

/-- a row of slices of bytes -/
structure Parts (w : World) (gs : Nat) (vs : List Value) (ls : List (List UInt8)) : Prop where
  len : vs.length = ls.length
  cell : ∀ (i : Nat) v, vs[i]? = some v → w.cell? ⟨gs, i, none⟩ = some v
  txt : ∀ (i : Nat) v l, vs[i]? = some v → ls[i]? = some l → Txt w [] v l
theorem Txt.cur {w0 w : World} {v : Value} {l : List UInt8} {H : List (Nat × Obj)} (h : Txt w0 [] v l) (hs : St w0 [] H w) : Txt w [] v l := (h.via hs).start (by simp)
theorem Parts.at {w0 w : World} {H : List (Nat × Obj)} {gs : Nat} {vs : List Value} {ls : List (List UInt8)} (h : Parts w0 gs vs ls) (hs : St w0 [] H w) {i : Nat} (hi : i < ls.length) :
    ∃ A c l, ls[i]? = some l ∧ w.cell? ⟨gs, i, none⟩ = some (.slice A l.length c) ∧ Hid (Txt w [] (.slice A l.length c) l) := by
  obtain ⟨l, hl⟩ : ∃ l, ls[i]? = some l := ⟨_, List.getElem?_eq_getElem hi⟩
  obtain ⟨v, hv⟩ : ∃ v, vs[i]? = some v := ⟨_, List.getElem?_eq_getElem (by rw [h.len]; exact hi)⟩
  have hT := h.txt i v l hv hl
  obtain ⟨A, c, rfl⟩ := hT.bd
  have hc := h.cell i _ hv
  have hlt := World.block_lt_of_cell? w0 _ hc
  exact ⟨A, c, l, hl, by rw [hs.cellOut hlt (by simp)]; exact hc, hid (hT.cur hs)⟩
def lensN (ls : List (List UInt8)) : Nat := ls.flatten.length
theorem flat_snoc {ls : List (List UInt8)} {i : Nat} {l : List UInt8} (h : ls[i]? = some l) : (ls.take (i + 1)).flatten = (ls.take i).flatten ++ l := by
  rw [List.take_add_one, h]; simp
theorem flat_le (ls : List (List UInt8)) (i : Nat) : (ls.take i).flatten.length ≤ ls.flatten.length := by
  have h := congrArg (fun l : List (List UInt8) => l.flatten.length) (List.take_append_drop i ls)
  simp only [List.flatten_append, List.length_append] at h
  omega
set_option maxHeartbeats 2000000 in
set_option maxRecDepth 4000 in
theorem concat_any {w0 : World} {gs cc : Nat} {vs : List Value} {ls : List (List UInt8)} (hp : Parts w0 gs vs ls) (h0 : 0 < ls.flatten.length) (hk : ls.flatten.length ≤ 1048576) (hn : ls.length ≤ 1048576) :
    Calls Try.prog 81 #[.slice (some ⟨gs, 0, none⟩) ls.length cc] w0 fun e w' => ∃ v C, e = .returned v ∧ Hid (Sl 5 1 v ls.flatten.length (sv ls.flatten) C) ∧ St w0 [] C w' := by
  have hs := St.nothing w0
  replace hp := hid hp
  go_enter Try.func81, Try.ntmps81
  go_wp2_with fail
  go_loopg [3, 5, 11] ls.length (fun g sz lv iv wr => ∃ i : Nat, iv = .int .i64 i ∧ i ≤ ls.length ∧ g = ls.length - i ∧ sz = .int .i64 (ls.take i).flatten.length ∧ St w0 [] [] wr)
  case atStart => exact ⟨0, rfl, Nat.zero_le _, rfl, by simp, hs⟩
  case round =>
    clear hs
    obtain ⟨i, rfl, hi, rfl, rfl, hs⟩ := hrel
    by_cases hlt : i < ls.length
    · obtain ⟨A, c, l, hl, hc, hT⟩ := hp.out.at hs hlt
      have hfs := flat_snoc hl
      have hfl := flat_le ls (i + 1)
      rw [hfs, List.length_append] at hfl
      obtain ⟨m, hm⟩ : ∃ m, (ls.take i).flatten.length = m := ⟨_, rfl⟩
      have hm2 : (ls.take (i + 1)).flatten.length = m + l.length := by rw [hfs, List.length_append, hm]
      rw [hm] at hfl
      rw [hm]
      replace hm := hid hm
      replace hm2 := hid hm2
      replace hfs := hid hfs
      replace hl := hid hl
      replace hs := hid hs
      go_wp2_with (first
        | ((with_reducible refine gd_ia ?_); refine wl_of rfl (wp_of_run (ex_indexAddr st60 (by first | exact ev rfl | rfl) (by first | exact ev rfl | rfl) hlt _) ?_))
        | ((with_reducible refine gd_ld (ty := 43) ?_); refine wl_of rfl (wp_ldc (off := 0 + i * 1) (by rw [Nat.zero_add, Nat.mul_one]; exact hc) (by first | exact ev rfl | rfl) sc43 ?_)))
      go_roundg (ls.length - (i + 1))
      case measure => omega
      case rel => exact ⟨i + 1, by go_num, hlt, rfl, by rw [hm2.out]; first | rfl | go_num, hs.out⟩
    · obtain rfl : i = ls.length := by omega
      rw [List.take_length]
      generalize hK : ls.flatten.length = K at *
      replace hK := hid hK
      go_wp2_with (first
        | (go_at_call 93; refine (grow_any h0 hk).mono ?_; rintro e w ⟨nv, C, rfl, hsl, hs'⟩; replace hs := hs.plus hs'; clear hs'; simp only [List.nil_append] at hs))
      go_loopg [6, 8, 27] ls.length (fun g nv lv iv wr => ∃ (i : Nat) (C : List (Nat × Obj)), iv = .int .i64 i ∧ i ≤ ls.length ∧ g = ls.length - i ∧ Hid (Sl 5 1 nv (ls.take i).flatten.length (sv (ls.take i).flatten) C) ∧ St w0 [] C wr)
      case atStart => exact ⟨0, C, rfl, Nat.zero_le _, rfl, hid (by simpa using hsl.out), hs⟩
      case round =>
        clear hs hsl
        obtain ⟨i, C, rfl, hi, rfl, hsl, hs⟩ := hrel
        by_cases hlt : i < ls.length
        · obtain ⟨A, c, l, hl, hc, hT⟩ := hp.out.at hs hlt
          have hfs := flat_snoc hl
          have hfl := flat_le ls (i + 1)
          rw [hfs, List.length_append, hK.out] at hfl
          replace hfs := hid hfs
          replace hl := hid hl
          have hsz := hid hfl
          clear hfl
          go_wp2_with (first
            | ((with_reducible refine gd_ia ?_); refine wl_of rfl (wp_of_run (ex_indexAddr st60 (by first | exact ev rfl | rfl) (by first | exact ev rfl | rfl) hlt _) ?_))
            | ((with_reducible refine gd_ld (ty := 43) ?_); refine wl_of rfl (wp_ldc (off := 0 + i * 1) (by rw [Nat.zero_add, Nat.mul_one]; exact hc) (by first | exact ev rfl | rfl) sc43 ?_))
            | ((with_reducible refine gd_ap ?_); refine wl_of rfl (St.appT [] [] (l := (ls.take i).flatten) (by simpa using hs) hsl.out hT.out (by first | exact ev rfl | rfl) (by first | exact ev rfl | rfl) (by have := hsz.out; omega) ?_); intro nv' C' w hs hsl'; replace hsl' := hid hsl'))
          go_roundg (ls.length - (i + 1))
          case measure => omega
          case rel => exact ⟨i + 1, C', by go_num, hlt, rfl, hid (by rw [hfs.out]; exact hsl'.out), by simpa using hs⟩
        · obtain rfl : i = ls.length := by omega
          rw [List.take_length, hK.out] at hsl
          replace hs := hid hs
          go_wp2_with fail
          go_ret
          exact ⟨_, C, rfl, by rw [hK.out]; exact hsl, hs.out⟩
end Go.Proofs.Ytclingkhdmhhoaa

/- The walks of package snap's Sum, number and value. No condition. -/
import Derived.Test.YtclingkhdmhhoaaSnA
import Derived.Deep.Cut
namespace Go.Proofs.Ytclingkhdmhhoaa
open Go.RowKit
set_option linter.unusedSimpArgs false
set_option linter.unusedVariables false

def crcAt (n : Int) (c : UInt8) : Nat := (bits .xor .u8 (n % 256) c.toNat).toNat
def crcStep (n : Int) (c : UInt8) : Int := bits .xor .u32 (n / 256) (tabV (crcAt n c))
def crcGo : List UInt8 → Int → Int
  | [], n => n
  | c :: cs, n => crcGo cs (crcStep n c)
def crc (l : List UInt8) : Int := bits .xor .u32 4294967295 (crcGo l 4294967295)
theorem crcAt_eq (n : Int) (c : UInt8) : bits .xor .u8 (n % 256) c.toNat = (crcAt n c : Int) ∧ crcAt n c < 256 := by
  have h := bits_u8 .xor (n % 256) c.toNat
  unfold crcAt
  omega
theorem tabL_at {i : Nat} (h : i < 256) : tabL[i]? = some (tv i) := by simp [tabL, h]

set_option maxHeartbeats 1000000 in
set_option maxRecDepth 4000 in
theorem sum_any {w0 : World} {v : Value} {l : List UInt8} (hT : Txt w0 [] v l) (hl : l.length ≤ 1048576) :
    Calls Try.prog 49 #[v] w0 fun e w' => e = .returned (.int .u32 (crc l)) ∧ St w0 [] [] w' := by
  have hs := St.nothing w0
  obtain ⟨A, c, rfl⟩ := hT.bd
  replace hT := hid hT
  have hL : tabL.length = 256 := by simp [tabL]
  have h1 : ∀ v ∈ tabL, v.oneCell' = true := tv_one _
  have hat := hid (fun i h => tabL_at (i := i) h)
  have htab := table_any
  generalize hc : crc l = C
  replace hc := hid hc
  generalize hLe : tabL = L at *
  replace hLe := hid hLe
  replace hL := hid hL
  replace htab := hid htab
  go_enter Try.func49, Try.ntmps49
  go_wp2_with (first
    | (go_at_call 78; refine (htab.out _).mono ?_; rintro e w ⟨rfl, hs'⟩; replace hs := hs.trans hs'; clear hs')
    | ((with_reducible refine gd_al ?_); refine wl_of rfl (hs.al zc113 ?_); intro tb w htb hs)
    | ((with_reducible refine gd_st (ty := 113) ?_); refine wl_of rfl (hs.sta 0 rfl rfl ag113 (vs := L) (by first | exact ev rfl | rfl) hL.out h1 (Nat.le_of_eq rfl) (splice_all (by rw [hL.out]; rfl)) ?_); intro w hs; rw [put_none]; simp only [List.set_cons_zero] at hs))
  go_loopg [4, 6, 10] l.length (fun g nv cv iv wr => ∃ (j : Nat) (n : Int), iv = .int .i64 j ∧ nv = .int .u32 n ∧ 0 ≤ n ∧ n < 4294967296 ∧ j ≤ l.length ∧ g = l.length - j ∧ Hid (bits .xor .u32 4294967295 (crcGo (l.drop j) n) = C) ∧ St w0 [] [(tb, row 113 L)] wr)
  case atStart => exact ⟨0, 4294967295, rfl, rfl, by omega, by omega, Nat.zero_le _, rfl, hid hc.out, hs⟩
  case round =>
    clear hs
    obtain ⟨j, n, rfl, rfl, hn0, hn1, hj, rfl, hcg, hs⟩ := hrel
    by_cases hlt : j < l.length
    · obtain ⟨x, hx⟩ : ∃ x, l[j]? = some x := ⟨_, List.getElem?_eq_getElem hlt⟩
      obtain ⟨b, o, rfl, hcell⟩ := byte_at hT.out hs hx
      have hdr := skip_cons hx
      obtain ⟨hq, hq2⟩ := crcAt_eq n x
      have hcg2 : bits .xor .u32 4294967295 (crcGo (l.drop (j + 1)) (crcStep n x)) = C := by
        have := hcg.out
        rw [hdr] at this
        exact this
      have hstep : crcStep n x = bits .xor .u32 (n / 256) (tabV (crcAt n x)) := rfl
      have hcr := bits_u32 .xor (n / 256) (tabV (crcAt n x))
      rw [← hstep] at hcr
      obtain ⟨hc0, hc1⟩ := hcr
      have hld : L[0 + crcAt n x * 1]? = some (tv (crcAt n x)) := by rw [Nat.zero_add, Nat.mul_one]; exact hat.out _ hq2
      generalize crcAt n x = q at *
      generalize crcStep n x = m at *
      replace hcg2 := hid hcg2
      replace hx := hid hx
      replace hdr := hid hdr
      replace hld := hid hld
      replace hstep := hid hstep.symm
      go_wp2_with (first
        | ((with_reducible refine gd_ia (ty := 113) ?_); refine wl_of rfl (wp_of_run (ex_indexAddr_arr ar113 (by first | exact ev rfl | rfl) (by first | exact ev rfl | rfl) hq2 _) ?_))
        | ((with_reducible refine gd_ld (ty := 63) ?_); refine wl_of rfl (hs.ld 0 rfl rfl (sc_of rfl) (v := .int .u32 (tabV q)) hld.out ?_)))
      go_roundg (l.length - (j + 1))
      case measure => omega
      case rel => exact ⟨j + 1, m, by go_num, by rw [← hstep.out], hc0, hc1, hlt, rfl, hcg2, hs⟩
    · obtain rfl : j = l.length := by omega
      have hC : C = bits .xor .u32 4294967295 n := by
        have := hcg.out
        rw [List.drop_length] at this
        exact this.symm
      replace hC := hid hC
      replace hs := hid hs
      go_wp2_with fail
      go_ret
      exact ⟨ret_i hC.out.symm, hs.out.void⟩

/-- the number that bytes tell -/
def valStep (n : Int) (c : UInt8) : Int := bits .or .u64 (n * 256 % 18446744073709551616) c.toNat
def valGo : List UInt8 → Int → Int
  | [], n => n
  | c :: cs, n => valGo cs (valStep n c)
theorem wrap_byte (x : UInt8) : IntKind.u64.wrap (x.toNat : Int) = x.toNat := by
  rw [IntKind.wrap_u64]; have := x.toNat_lt; omega
set_option maxHeartbeats 1000000 in
set_option maxRecDepth 4000 in
theorem value_any {w0 : World} {v : Value} {l : List UInt8} (hT : Txt w0 [] v l) (hl : l.length ≤ 1048576) :
    Calls Try.prog 92 #[v] w0 fun e w' => e = .returned (.int .u64 (valGo l 0)) ∧ w0 = w' := by
  have hs := St.nothing w0
  obtain ⟨A, c, rfl⟩ := hT.bd
  replace hT := hid hT
  generalize hc : valGo l 0 = C
  replace hc := hid hc
  replace hs := hid hs
  go_enter Try.func92, Try.ntmps92
  go_wp2_with fail
  go_loopg [2, 4, 7] l.length (fun g nv cv iv wr => ∃ (j : Nat) (n : Int), iv = .int .i64 j ∧ nv = .int .u64 n ∧ 0 ≤ n ∧ Hid (n < 18446744073709551616) ∧ j ≤ l.length ∧ g = l.length - j ∧ Hid (valGo (l.drop j) n = C) ∧ wr = w0)
  case atStart => exact ⟨0, 0, rfl, rfl, by omega, hid (by omega), Nat.zero_le _, rfl, hid hc.out, rfl⟩
  case round =>
    obtain ⟨j, n, rfl, rfl, hn0, hn1, hj, rfl, hcg, rfl⟩ := hrel
    by_cases hlt : j < l.length
    · obtain ⟨x, hx⟩ : ∃ x, l[j]? = some x := ⟨_, List.getElem?_eq_getElem hlt⟩
      obtain ⟨b, o, rfl, hcell⟩ := byte_at hT.out hs.out hx
      have hdr := skip_cons hx
      have hcg2 : valGo (l.drop (j + 1)) (valStep n x) = C := by
        have := hcg.out
        rw [hdr] at this
        exact this
      replace hcg2 := hid hcg2
      replace hx := hid hx
      replace hdr := hid hdr
      go_wp2_with fail
      go_roundg (l.length - (j + 1))
      case measure => omega
      case rel => exact ⟨j + 1, valStep n x, by go_num, by rw [wrap_byte]; rfl, (bits_u64 _ _ _).1, hid (bits_u64 _ _ _).2, hlt, rfl, hcg2, rfl⟩
    · obtain rfl : j = l.length := by omega
      have hC : n = C := by
        have := hcg.out
        rw [List.drop_length] at this
        exact this
      subst hC
      go_wp2_with fail
      go_ret
      exact ⟨rfl, rfl⟩

/-- the byte of a number at a place -/
def numAt (n : Int) (i : Nat) : UInt8 := UInt8.ofNat ((n / 2 ^ (8 * i)) % 256).toNat
/-- a number's bytes, the greatest first -/
def numL8 (n : Int) : Nat → List UInt8
  | 0 => []
  | i + 1 => numAt n i :: numL8 n i
theorem numL8_len (n : Int) : ∀ k, (numL8 n k).length = k
  | 0 => rfl
  | k + 1 => by simp [numL8, numL8_len n k]
theorem numAt_eq (n : Int) (i : Nat) : ((numAt n i).toNat : Int) = n / 2 ^ (8 * i) % 256 := by
  unfold numAt
  rw [UInt8.toNat_ofNat']
  generalize n / 2 ^ (8 * i) = z
  omega
theorem sl_ap0 {w0 w : World} {CT : List (Nat × Obj)} {t : List UInt8} {tv : Value} (hsl : Sl 5 1 tv t.length (sv t) CT) {gb : Nat} {y : UInt8} (hs : St w0 [] ((gb, row 5 (sv [y])) :: CT) w) {a : Act} {K : Act → World → Prop} {Q : Exit → Act → World → Prop} {dst : Option Tmp} {ty : TypeId} {pos : String} {aft : Array Edge} {g : Option (Nat × Bool)}
    {i j : Operand} (hi : a.eval i = tv) (hj : a.eval j = .slice (some ⟨gb, 0, none⟩) 1 1) (hb : t.length ≤ 1048576)
    (h : ∀ tv' CT' w', Hid (Sl 5 1 tv' (t ++ [y]).length (sv (t ++ [y])) CT') → St w0 [] CT' w' → K (a.put dst tv') w') :
    Oper.wp Try.prog ⟨dst, .call { callee := .builtin .append, args := #[i, j], argTypes := #[43, 43] }, ty, pos, aft, g⟩ a w K Q := by
  have hs2 : St w0 [] ([(gb, row 5 (sv [y]))] ++ CT ++ []) w := by simpa using hs
  refine St.appM (m := 1) (l := t) (news := [y]) [(gb, row 5 (sv [y]))] [] hs2 (.inl hsl) hi hj rfl (by decide) ?_ (by omega) ?_
  · intro j u hu
    exact cells_at (hs2.at 0 rfl) j (u8 u) (by simp only [sv, List.getElem?_map, hu]; rfl)
  · intro v' C' w' hs' hsl'
    exact h v' C' w' (hid hsl') (St.drop (A := [(gb, row 5 (sv [y]))]) (by simpa using hs'))
set_option maxHeartbeats 1000000 in
set_option maxRecDepth 4000 in
theorem number_any {w0 : World} {n : Int} {k : Nat} (hn : 0 ≤ n) (hk : k ≤ 8) :
    Calls Try.prog 83 #[.int .u64 n, .int .i64 k] w0 fun e w' => ∃ v C, e = .returned v ∧ Hid (Sl 5 1 v k (sv (numL8 n k)) C) ∧ St w0 [] C w' := by
  have hs := St.nothing w0
  go_enter Try.func83, Try.ntmps83
  go_wp2_with fail
  go_loopg [4, 5] k (fun g tv iv wr => ∃ (j : Nat) (t : List UInt8) (C : List (Nat × Obj)), iv = .int .i64 ((j : Int) - 1) ∧ j ≤ k ∧ j = g ∧ t.length = k - j ∧ Hid (t ++ numL8 n j = numL8 n k) ∧ Hid (Sl 5 1 tv t.length (sv t) C) ∧ St w0 [] C wr)
  case atStart => exact ⟨k, [], [], rfl, Nat.le_refl _, rfl, by simp, hid rfl, hid (Sl.nil 5 1), hs⟩
  case round =>
    clear hs
    obtain ⟨j, t, C, rfl, hj, rfl, ht, htn, hsl, hs⟩ := hrel
    by_cases hlt : 1 ≤ j
    · obtain ⟨i, rfl⟩ : ∃ i, j = i + 1 := ⟨j - 1, by omega⟩
      have e1 : ((i + 1 : Nat) : Int) - 1 = i := by omega
      rw [e1]
      obtain ⟨y, hy⟩ : ∃ y, numAt n i = y := ⟨_, rfl⟩
      have hna : n / 2 ^ (8 * i) % 256 = (y.toNat : Int) := by rw [← hy]; exact (numAt_eq n i).symm
      have htn2 : (t ++ [y]) ++ numL8 n i = numL8 n k := by
        rw [← htn.out, List.append_assoc, ← hy]; rfl
      replace hy := hid hy
      replace hna := hid hna
      replace e1 := hid e1
      replace htn2 := hid htn2
      have hts : t.length ≤ 8 := by omega
      replace ht := hid ht
      go_wp2_with (first
        | ((with_reducible refine gd_bs (n := 1) ?_); refine wl_of rfl (hs.bsn (qs := [(0, .int .u8 (n / 2 ^ (8 * i) % 256))]) (vs := sv [y]) rfl (fun w => by rw [hna.out]; exact run_bs1b w y) ?_); intro gb w hgb hs)
        | ((with_reducible refine gd_ap ?_); refine wl_of rfl (sl_ap0 hsl.out hs (by first | exact ev rfl | rfl) (by first | exact ev rfl | rfl) (by omega) ?_); intro tv' C' w hsl' hs))
      go_roundg i
      case measure => omega
      case rel => exact ⟨i, t ++ [y], C', rfl, by omega, rfl, by have := ht.out; simp; omega, htn2, hsl', hs⟩
    · obtain rfl : j = 0 := by omega
      have e1 : ((0 : Nat) : Int) - 1 = -1 := rfl
      rw [e1]
      have htl : t.length = k := by omega
      have htn2 : t = numL8 n k := by have := htn.out; simpa [numL8] using this
      replace htn2 := hid htn2
      replace htl := hid htl
      replace ht := hid ht
      replace hs := hid hs
      go_wp2_with fail
      go_ret
      refine ⟨_, C, rfl, ?_, hs.out⟩
      rw [← htn2.out, ← htl.out]
      exact hsl
end Go.Proofs.Ytclingkhdmhhoaa

/- The walk of snap's Save. No condition. -/
import Derived.Test.YtclingkhdmhhoaaSnH
namespace Go.Proofs.Ytclingkhdmhhoaa
open Go.RowKit Go.Shelf
set_option linter.unusedSimpArgs false
set_option linter.unusedVariables false
attribute [local go_sem] Oper.semAt_some

set_option maxRecDepth 4000 in
theorem chunk_st {w0 w : World} {D : List Nat} {H : List (Nat × Obj)} (hs : St w0 D H w) (A : Option Addr) (n c : Nat) : Calls Try.prog 54 #[.slice A n c, .int .i64 64] w fun e w' =>
    ∃ b2 b3, e = .returned (.func (.func 80) #[] #[.pointer (some ⟨b2, 0, none⟩), .pointer (some ⟨b3, 0, none⟩)]) ∧ St w0 D ((b3, row 3 [.int .i64 64]) :: (b2, row 43 [.slice A n c]) :: H) w' := by
  go_enter Try.func54, Try.ntmps54
  go_wp2_with (first
    | ((with_reducible refine gd_bx (ty := 43) ?_); refine wl_of rfl (hs.bx1 (by first | exact ev rfl | rfl) (by rfl) ?_); intro b2 w hb2 hs)
    | ((with_reducible refine gd_bx (ty := 3) ?_); refine wl_of rfl (hs.bx1 (by first | exact ev rfl | rfl) (by rfl) ?_); intro b3 w hb3 hs)
    | ((with_reducible refine gd_ld ?_); first | refine wl_of rfl (hs.ld 0 rfl rfl (sc_of rfl) rfl ?_)))
  go_ret
  exact ⟨b2, b3, rfl, hs⟩
theorem chunk_stops (n b2 b3 bb o len cap : Nat) (hlen : len ≤ 1048576) (hcap : len ≤ cap) (hcm : cap ≤ maxLen) (A : Option Addr) (hA : len = 0 ∨ A = some ⟨bb, o, none⟩) (w : World)
    (h2 : w.heap[b2]? = some (row 43 [.slice A len cap])) (h3 : w.heap[b3]? = some (row 3 [.int .i64 64])) :
    SeqStopsK Fence.wide n Try.prog 80 #[.pointer (some ⟨b2, 0, none⟩), .pointer (some ⟨b3, 0, none⟩)] (encC bb o len) (KeepB [b2, b3]) (fun ys : List Nat => ys = List.range ((len + 63) / 64)) (fun pre => pre <+: List.range ((len + 63) / 64)) ((len + 63) / 64) w :=
  fun l J Jx W hW hJ _ hY h0 => chunk1 n l b2 b3 bb o len cap hlen hcap hcm A hA J Jx W hJ hY
    ((hW.block _ (Array.getElem?_eq_some_iff.1 h2).1).trans h2) ((hW.block _ (Array.getElem?_eq_some_iff.1 h3).1).trans h3) h0

/-- a part, filled up with noughts -/
def padS (c : List UInt8) : List UInt8 := c ++ List.replicate (64 - c.length) 0
def partAt (b : List UInt8) (i : Nat) : List UInt8 := (b.drop (i * 64)).take 64
theorem padS_len {c : List UInt8} (h : c.length ≤ 64) : (padS c).length = 64 := by simp [padS]; omega
/-- the first parts are written -/
def wrTo (k : Dk) (base : Nat) (b : List UInt8) : Nat → Dk
  | 0 => k
  | i + 1 => (wrTo k base b i).write ((base + 1 + i : Nat) : Int) (padS (partAt b i))
def partsN (b : List UInt8) : Nat := (b.length + 63) / 64
/-- where the next snapshot goes -/
def saveBase (k : Dk) (f : Int) : Nat := if (nwAt f (slotsOf k.lasts) 2).slot = 0 then k.lasts.length / 2 else 0
def saveOf (k : Dk) (f : Int) (b : List UInt8) : Dk :=
  (((wrTo k (saveBase k f) b (partsN b)).flush).write (saveBase k f : Int) (headL ((hiAt (slotsOf k.lasts) 2 + 1 : Nat) : Int) f b)).flush

theorem Dk.write_ops (k : Dk) (a : Int) (s : List UInt8) : k.ops ≤ (k.write a s).ops ∧ (k.write a s).ops ≤ k.ops + 1 := by
  unfold Dk.write; split
  · simp only; omega
  · omega
theorem Dk.flush_ops (k : Dk) : k.ops ≤ k.flush.ops ∧ k.flush.ops ≤ k.ops + 1 := by
  unfold Dk.flush; split
  · omega
  · simp only; omega
theorem wrTo_ops (k : Dk) (base : Nat) (b : List UInt8) : ∀ i, k.ops ≤ (wrTo k base b i).ops ∧ (wrTo k base b i).ops ≤ k.ops + i
  | 0 => by simp [wrTo]
  | i + 1 => by
    have h1 := wrTo_ops k base b i
    have h2 := (wrTo k base b i).write_ops ((base + 1 + i : Nat) : Int) (padS (partAt b i))
    simp only [wrTo]; omega
theorem Disk.cells {d : Nat} {k : Dk} {C : List (Nat × Obj)} (h : Disk d k C) : AllCells C := by
  obtain ⟨ok, bl, lv, CL, rfl, hsl⟩ := h
  have hcl : AllCells CL := by
    rcases hsl.2 with ⟨_, _, rfl⟩ | ⟨g, c, j, _, rfl, _⟩
    · exact allCells_nil
    · exact allCells_row allCells_nil
  exact allCells_row (allCells_row hcl)

/-- parts are written, one behind the other -/
def wrS (k : Dk) (base : Nat) (b : List UInt8) (pre : List Nat) : Dk :=
  (pre.foldl (fun (s : Dk × Nat) x => (s.1.write ((base + 1 + s.2 : Nat) : Int) (padS (partAt b x)), s.2 + 1)) (k, 0)).1
theorem wrS_go (k : Dk) (base : Nat) (b : List UInt8) : ∀ (pre : List Nat) (m : Nat), (pre.foldl (fun (s : Dk × Nat) x => (s.1.write ((base + 1 + s.2 : Nat) : Int) (padS (partAt b x)), s.2 + 1)) (k, m)).2 = m + pre.length := by
  intro pre
  induction pre generalizing k with
  | nil => intro m; rfl
  | cons x pre ih => intro m; rw [List.foldl_cons, ih]; simp; omega
theorem wrS_snoc (k : Dk) (base : Nat) (b : List UInt8) (pre : List Nat) (x : Nat) : wrS k base b (pre ++ [x]) = (wrS k base b pre).write ((base + 1 + pre.length : Nat) : Int) (padS (partAt b x)) := by
  unfold wrS
  rw [List.foldl_append, List.foldl_cons, List.foldl_nil]
  have h := wrS_go k base b pre 0
  simp only at h ⊢
  rw [h, Nat.zero_add]
theorem wrS_range (k : Dk) (base : Nat) (b : List UInt8) : ∀ i, wrS k base b (List.range i) = wrTo k base b i
  | 0 => rfl
  | i + 1 => by rw [List.range_succ, wrS_snoc, wrS_range k base b i, List.length_range]; rfl
theorem wrS_ops (k : Dk) (base : Nat) (b : List UInt8) (pre : List Nat) : (wrS k base b pre).ops ≤ k.ops + pre.length := by
  have : ∀ (m : Nat) (pre : List Nat), pre.length = m → (wrS k base b pre).ops ≤ k.ops + m := by
    intro m
    induction m with
    | zero => intro pre h; obtain rfl := List.eq_nil_of_length_eq_zero h; simp [wrS]
    | succ m ih =>
      intro pre h
      have hne : pre ≠ [] := by intro e; rw [e] at h; cases h
      obtain ⟨q, x, rfl⟩ : ∃ q x, pre = q ++ [x] := ⟨pre.dropLast, pre.getLast hne, (List.dropLast_concat_getLast hne).symm⟩
      have h1 := ih q (by simpa using h)
      have h2 := (wrS k base b q).write_ops ((base + 1 + q.length : Nat) : Int) (padS (partAt b x))
      rw [wrS_snoc]
      omega
  exact this _ pre rfl
def SvI (N : Nat) (w0 : World) (D : List Nat) (d b12 b3 b2 bd : Nat) (k : Dk) (base : Nat) (b : List UInt8) (v : Value) (pre : List Nat) (W : World) : Prop :=
  N ≤ W.heap.size ∧ ∃ C', Disk d (wrS k base b pre) C' ∧ St w0 D ([(b3, row 3 [.int .i64 64]), (b2, row 43 [v]), (b12, row 3 [.int .i64 ((base + 1 + pre.length : Nat) : Int)]), (bd, row 25 [.pointer (some ⟨d, 0, none⟩)])] ++ C') W
theorem SvI.grown {N : Nat} {w0 : World} {D : List Nat} {d b12 b3 b2 bd : Nat} {k : Dk} {base : Nat} {b : List UInt8} {v : Value} {pre : List Nat} {W W' : World} {r : Option Nat} {B : Nat} (h : SvI N w0 D d b12 b3 b2 bd k base b v pre W) (hB : w0.heap.size ≤ B) (hg : W.grownBy W' r)
    (hr : ∀ k, r = some k → B ≤ k ∧ ∃ o : Obj, W.heap[k]? = some o ∧ o.isCells = false) : SvI N w0 D d b12 b3 b2 bd k base b v pre W' := by
  obtain ⟨h1, C', h2, h3⟩ := h
  exact ⟨Nat.le_trans h1 hg.size, C', h2, h3.grown (allCells_row (allCells_row (allCells_row (allCells_row h2.cells)))) hB hg hr⟩
theorem txt_addr {w : World} {D : List Nat} {A : Option Addr} {c : Nat} {l : List UInt8} (h : Txt w D (.slice A l.length c) l) : ∃ bb o, l.length = 0 ∨ A = some ⟨bb, o, none⟩ := by
  obtain ⟨A', cc, e1, e2, e3, e4⟩ := h
  obtain ⟨rfl, -, rfl⟩ : A = A' ∧ l.length = l.length ∧ c = cc := by simpa using e1
  rcases e4 with e4 | ⟨b, o, rfl, hb, hd, hc⟩
  · exact ⟨0, 0, .inl (by rw [e4]; rfl)⟩
  · exact ⟨b, o, .inr rfl⟩
theorem txt_cap {w : World} {D : List Nat} {A : Option Addr} {c : Nat} {l : List UInt8} (h : Txt w D (.slice A l.length c) l) : l.length ≤ c ∧ c ≤ maxLen := by
  obtain ⟨A', cc, e1, e2, e3, e4⟩ := h
  obtain ⟨rfl, -, rfl⟩ : A = A' ∧ l.length = l.length ∧ c = cc := by simpa using e1
  exact ⟨e2, e3⟩
theorem part_src {w0 : World} {D : List Nat} {A : Option Addr} {c bb o : Nat} {l : List UInt8} (h : Txt w0 D (.slice A l.length c) l) (hA : l.length = 0 ∨ A = some ⟨bb, o, none⟩) (x : Nat) : ∀ (H : List (Nat × Obj)) (w : World), St w0 D H w → ∀ j v, (sv (partAt l x))[j]? = some v → w.cell? ((⟨bb, o + x * 64, none⟩ : Addr).add j) = some v := by
  intro H w hs j v hv
  simp only [sv, List.getElem?_map, Option.map_eq_some_iff] at hv
  obtain ⟨y, hy, rfl⟩ := hv
  unfold partAt at hy
  rw [List.getElem?_take] at hy
  split at hy
  · rw [List.getElem?_drop] at hy
    obtain ⟨b, o', h1, h2⟩ := byte_at h hs hy
    have hlt := (List.getElem?_eq_some_iff.1 hy).1
    rcases hA with hA | hA
    · omega
    · rw [hA] at h1
      cases h1
      rw [add_none, show o + x * 64 + j = o + (x * 64 + j) by omega]; exact h2
  · cases hy
theorem pad_splice {c : List UInt8} (h : c.length ≤ 64) : splice zsec 0 (sv c) = sv (padS c) := by
  have e1 : zsec.drop (0 + (sv c).length) = List.replicate (64 - c.length) (Value.int .u8 0) := by
    rw [length_sv, Nat.zero_add, zsec, List.drop_replicate]
  unfold splice padS
  rw [e1]
  simp only [sv, List.map_append, List.map_replicate, List.take_zero, List.nil_append]
  rfl
theorem cut_all {l : List UInt8} (h : l.length = 64) : cut (sv l) 0 64 = sv l := by
  unfold cut
  rw [List.drop_zero, List.take_of_length_le (by rw [length_sv, h]; decide)]
theorem write_z {w0 : World} {d : Nat} {k : Dk} {C : List (Nat × Obj)} {a : Int} {s : List UInt8} (h : Has w0 C) (hd : Disk d k C) (hops : k.ops + 1 ≤ 1048576) (hs64 : s.length = 64) :
    Calls Try.prog 14 #[.pointer (some ⟨d, 0, none⟩), .int .i64 a, .agg (sv s).toArray] w0 fun e w' => ∃ z, e = .returned (.int .i64 z) ∧ ∃ C', Disk d (k.write a s) C' ∧ St w0 (keys C) C' w' :=
  (write_any h hd hops hs64).mono fun e w' ⟨he, h2⟩ => ⟨_, he, h2⟩
theorem run_add1 (n : Nat) (h : n ≤ 1073741824) (w : World) : (eqGuard .add 3 (.tmp 63) (.const (.int .i64 1)) (.int .i64 n) (.int .i64 1)).run Try.prog w = .ok () w ∧ (binOp .add 3 (.int .i64 n) (.int .i64 1)).run Try.prog w = .ok (.int .i64 ((n + 1 : Nat) : Int)) w := by
  have e : IntKind.i64.wrap ((n : Int) + 1) = ((n + 1 : Nat) : Int) := by rw [IntKind.wrap_i64]; omega
  constructor
  · go_simp
  · go_simp
theorem results29 {w : World} {v : Value} {tmps : Array Value} (t6 : tmps.getD 6 undef = v) : (results Try.f29 tmps).run Try.prog w = .ok v w := by
  rw [Array.getD_eq_getD_getElem?] at t6
  simp [results, Try.f29, t6]
theorem zip1 (p1 : Nat) (v1 : Value) (t : Array Value) : (#[p1].zip #[v1]).foldl (fun t x => t.setIfInBounds x.1 x.2) t = t.setIfInBounds p1 v1 := by
  rw [← Array.foldl_toList]; simp
theorem gdi_slw {F : Fence} {n : Nat} {P : Program} {ops : Array Oper} {Q : Exit → Act → World → Prop} {a : Act} {w : World} {rest : List Oper} {dst : Option Tmp} {t ty : TypeId} {pos : String} {aft : Array Edge} {g : Option (Nat × Bool)} {x : Operand} (h : wpListIn F n P ops Q (⟨dst, .slice ty x none none none, t, pos, aft, g⟩ :: rest) a w) : wpListIn F n P ops Q (⟨dst, .slice ty x none none none, t, pos, aft, g⟩ :: rest) a w := h
theorem gdi_cp {F : Fence} {n : Nat} {P : Program} {ops : Array Oper} {Q : Exit → Act → World → Prop} {a : Act} {w : World} {rest : List Oper} {dst : Option Tmp} {t t1 t2 : TypeId} {pos : String} {aft : Array Edge} {g : Option (Nat × Bool)} {x y : Operand} (h : wpListIn F n P ops Q (⟨dst, .call { callee := .builtin .copy, args := #[x, y], argTypes := #[t1, t2] }, t, pos, aft, g⟩ :: rest) a w) : wpListIn F n P ops Q (⟨dst, .call { callee := .builtin .copy, args := #[x, y], argTypes := #[t1, t2] }, t, pos, aft, g⟩ :: rest) a w := h
theorem gdi_call {F : Fence} {n : Nat} {P : Program} {ops : Array Oper} {Q : Exit → Act → World → Prop} {a : Act} {w : World} {rest : List Oper} {dst : Option Tmp} {t : TypeId} {pos : String} {aft : Array Edge} {g : Option (Nat × Bool)} {x : Operand} {ar : Array Operand} {ts : Array TypeId} (h : wpListIn F n P ops Q (⟨dst, .call { callee := .value x, args := ar, argTypes := ts }, t, pos, aft, g⟩ :: rest) a w) : wpListIn F n P ops Q (⟨dst, .call { callee := .value x, args := ar, argTypes := ts }, t, pos, aft, g⟩ :: rest) a w := h
theorem cf14 (args : Array Value) (w : World) : (callFunc 14 args).run Try.prog w = .ok (.enter 14 args) w := by go_simp

set_option maxRecDepth 10000 in
set_option maxHeartbeats 4000000 in
theorem save_any {w0 : World} {d : Nat} {k : Dk} {C : List (Nat × Obj)} {v : Value} {b : List UInt8} {f : Int} (h : Has w0 C) (hd : Disk d k C) (hc : Calm k) (hT : Txt w0 (keys C) v b) (hb : b.length ≤ roomN k.lasts.length)
    (hf0 : 0 ≤ f) (hf1 : f < 4294967296) (hhi : hiAt (slotsOf k.lasts) 2 + 1 ≤ 1073741824) (hops : k.ops ≤ 1000000) :
    Calls Try.prog 29 #[.pointer (some ⟨d, 0, none⟩), .int .u32 f, v] w0 fun e w' => e = .returned (.int .i64 0) ∧ ∃ C', Disk d (saveOf k f b) C' ∧ St w0 (keys C) C' w' := by
  have hs := St.start h
  obtain ⟨A, c, rfl⟩ : ∃ A c, v = .slice A b.length c := by obtain ⟨A, c, h1, _⟩ := hT; exact ⟨A, c, h1⟩
  have hln := hc.len
  have hl4 := hc.len4
  have hroom : roomN k.lasts.length = (k.lasts.length / 2 - 1) * 64 := rfl
  have hhg := hid (fun (w : World) (h : Has w C) => highest_any h hd hc)
  have hnw := hid (fun (w : World) (h : Has w C) => newest_any (f := f) h hd hc)
  have hlk := hid (fun (w : World) (h : Has w C) => len_k h hd)
  have hrm := hid (fun w => room_any k.lasts.length (by omega) w)
  have hsp := hid (fun w => span_any k.lasts.length (by omega) w)
  have hsv := hid (show saveOf k f b = (((wrTo k (saveBase k f) b (partsN b)).flush).write (saveBase k f : Int) (headL ((hiAt (slotsOf k.lasts) 2 + 1 : Nat) : Int) f b)).flush from rfl)
  have hsb : saveBase k f = if (nwAt f (slotsOf k.lasts) 2).slot = 0 then k.lasts.length / 2 else 0 := rfl
  generalize hHI : hiAt (slotsOf k.lasts) 2 = HI at *
  generalize hNW : nwAt f (slotsOf k.lasts) 2 = NW at *
  obtain ⟨ns, ne, nb⟩ := NW
  simp only at hsb hnw
  replace hHI := hid hHI
  replace hNW := hid hNW
  have hD := hid hd
  generalize hn : k.lasts.length = n at *
  replace hn := hid hn
  replace hc := hid hc
  generalize roomN n = room at *
  have hsp2 : 2 ≤ n / 2 := by omega
  have hspn : n / 2 + n / 2 ≤ n := by omega
  have hrb : room ≤ 65536 := by rw [hroom]; omega
  generalize n / 2 = sp at *
  have hbs : b.length ≤ (sp - 1) * 64 := by omega
  replace hroom := hid hroom
  have qs : ((sp : Int) == 0) = false := by rw [beq_eq_false_iff_ne]; omega
  have q1 : decide (room < b.length) = false := by simp; omega
  refine (callsIn_wide (n := 3)).1 (callsIn_of_wp_marks Try.func29 rfl trivial ?_ rfl)
  simp only [Try.ntmps29, List.size_toArray, List.length_cons, List.length_nil, Nat.reduceAdd, Nat.reduceSub, Array.replicate_succ, Array.replicate_zero, List.push_toArray, List.append_toArray, List.nil_append, List.cons_append]
  rw [wpIn_wide]
  go_upto_region 8 with (first
    | ((with_reducible refine gd_bx (ty := 25) ?_); refine wl_of rfl (hs.bx1 (by first | exact ev rfl | rfl) (by rfl) ?_); intro bd w hbd hs)
    | ((with_reducible refine gd_ld (ty := 25) ?_); first | refine wl_of rfl (hs.ld 0 rfl rfl (sc_of rfl) (v := .pointer (some ⟨d, 0, none⟩)) rfl ?_) | refine wl_on rfl (hs.ld 0 rfl rfl (sc_of rfl) (v := .pointer (some ⟨d, 0, none⟩)) rfl ?_))
    | (go_at_call 51; refine (hhg.out _ (Has.right (A := [_]) hs.has)).mono ?_; rintro e w ⟨rfl, hs'⟩; replace hs := St.callR (A := [_]) hs hs'; clear hs')
    | (go_at_call 53; refine (hnw.out _ (Has.right (A := [_]) hs.has)).mono ?_; rintro e w ⟨nv, CB, rfl, hby, hs'⟩; replace hs := St.callR (A := [_]) hs hs'; clear hs' hby)
    | (go_at_call 52; refine (hlk.out _ (Has.right (A := [_]) hs.has)).mono ?_; rintro e w' ⟨rfl, rfl⟩)
    | (go_at_call 28; refine (hrm.out _).mono ?_; rintro e w' ⟨rfl, rfl⟩)
    | (go_at_call 50; refine (hsp.out _).mono ?_; rintro e w' ⟨rfl, rfl⟩))
  replace hs : St w0 (keys C) ([(bd, row 25 [.pointer (some ⟨d, 0, none⟩)])] ++ C) w := St.dropMid (A := [_]) (C := CB) (B := C) (by rw [List.append_assoc]; exact hs)
  obtain ⟨base, hbase⟩ : ∃ base, saveBase k f = base := ⟨_, rfl⟩
  rw [hbase] at hsv hsb
  have hbl : base + sp ≤ n := by rw [hsb]; split <;> omega
  replace hbase := hid hbase
  by_cases hz : ns = 0
  · rw [if_pos hz] at hsb
    obtain rfl : base = sp := hsb
    clear hspn hsp2
    subst hz
    go_upto_region 11 with (first
      | ((with_reducible refine gd_ld (ty := 25) ?_); refine wl_of rfl (hs.ld 0 rfl rfl (sc_of rfl) (v := .pointer (some ⟨d, 0, none⟩)) rfl ?_))
      | (go_at_call 52; refine (hlk.out _ (Has.right (A := [_]) hs.has)).mono ?_; rintro e w' ⟨rfl, rfl⟩)
      | (go_at_call 50; refine (hsp.out _).mono ?_; rintro e w' ⟨rfl, rfl⟩)
      | ((with_reducible refine gd_al ?_); refine wl_of rfl (hs.al (zc_of rfl) ?_); intro b12 w hb12 hs)
      | ((with_reducible refine gd_st (ty := 3) ?_); refine wl_of rfl (hs.st0 0 rfl rfl (sc_of rfl) rfl (by rfl) (Nat.le_of_ble_eq_true rfl) ?_); intro w hs; replace hs : St w0 (keys C) ([(b12, row 3 [.int .i64 ((base + 1 : Nat) : Int)]), (bd, row 25 [.pointer (some ⟨d, 0, none⟩)])] ++ C) w := hs))
    go_wp2_with (first
      | (go_at_call 54; refine (chunk_st hs A b.length c).mono ?_; rintro e w ⟨b2, b3, rfl, hs⟩))
    --GEN1
    have hBs3 := hs.at 0 rfl
    have hBs2 := hs.at 1 rfl
    have hlt3 := (Array.getElem?_eq_some_iff.1 hBs3).1
    have hlt2 := (Array.getElem?_eq_some_iff.1 hBs2).1
    obtain ⟨bb, o, hA⟩ : ∃ bb o, b.length = 0 ∨ A = some ⟨bb, o, none⟩ := txt_addr hT
    obtain ⟨hcap, hcm⟩ := txt_cap hT
    have hseq := chunk_stops (3 - 1) b2 b3 bb o b.length c (by omega) hcap hcm A hA w hBs2 hBs3
    have h0 : SvI w.heap.size w0 (keys C) d b12 b3 b2 bd k base b (.slice A b.length c) [] w := ⟨Nat.le_refl _, C, hD.out, hs⟩
    refine wpIn_wide.1 (wpIn_rangeFunc_ownH (n := 3) rfl (by decide) (gf := 80) (lb := #[.pointer (some ⟨b2, 0, none⟩), .pointer (some ⟨b3, 0, none⟩)]) rfl trivial (enters_of Try.func80 (by kernel_rfl) rfl) hseq keepB_t (keepB_b (by simp; exact ⟨hlt2, hlt3⟩)) (Below.refl _ _) (fun _ => rfl)
      (SvI w.heap.size w0 (keys C) d b12 b3 b2 bd k base b (.slice A b.length c)) (fun _ _ _ => False) ?hI ?hIx h0
      (fun x a' _ => a' = { tmps := #[Value.pointer (some ⟨d, 0, none⟩), Value.int .u32 f, Value.slice A b.length c, Value.pointer (some ⟨bd, 0, none⟩), undef, undef, Value.int .i64 (0 : Int), Value.int .i64 (HI : Int), Value.int .i64 (0 : Int), Value.int .i64 (ne : Int), nv, Value.int .i64 (base : Int), Value.pointer (some ⟨b12, 0, none⟩), chunkV bb o b.length x, undef, Value.pointer (some ⟨d, 0, none⟩), Value.int .i64 (HI : Int), Value.bool false, Value.slice A b.length c, Value.int .i64 (b.length : Int), Value.pointer (some ⟨d, 0, none⟩), Value.int .i64 (n : Int), Value.int .i64 (room : Int), Value.bool false, Value.bool false, Value.pointer (some ⟨d, 0, none⟩), Value.int .i64 (n : Int), Value.int .i64 (base : Int), Value.bool false, Value.bool false, Value.bool false, Value.int .i64 (HI : Int), Value.bool false, Value.tuple #[Value.int .i64 (0 : Int), Value.int .i64 (ne : Int), nv], Value.pointer (some ⟨d, 0, none⟩), Value.int .u32 f, Value.tuple #[Value.int .i64 (0 : Int), Value.int .i64 (ne : Int), nv], Value.int .i64 (0 : Int), Value.int .i64 (ne : Int), nv, Value.int .i64 (0 : Int), Value.bool true, Value.pointer (some ⟨d, 0, none⟩), Value.int .i64 (n : Int), Value.int .i64 (base : Int), Value.int .i64 (base : Int), Value.int .i64 ((base : Int) + 1), Value.slice A b.length c, Value.func (.func 80) #[] #[Value.pointer (some ⟨b2, 0, none⟩), Value.pointer (some ⟨b3, 0, none⟩)], chunkV bb o b.length x, undef, undef, undef, undef, undef, undef, undef, undef, undef, undef, undef, undef, undef, undef, undef, undef, undef, undef, undef, undef, undef], defers := [] })
      ?hAx ?assign ?body ?done ?stop)
    case hI => exact fun pre X Y r hp hg hr => hp.grown hs.size hg hr
    case hIx => exact fun _ _ _ _ _ h _ _ => h
    case hAx => exact fun x a' _ X Y r h _ _ => h
    case assign =>
      rintro l pre x W K hI hK
      simp only [encC, zip1, List.setIfInBounds_toArray, List.set_cons_succ, List.set_cons_zero]
      gi_wp2
      exact hK _ _ (KeepsFrom.refl _ _) (fun _ _ => rfl) hI rfl
    case body =>
      rintro l pre x a' W hle hrec ⟨hN, C', hD', hsW⟩ rfl hlen2
      have hn := St.start hsW.has
      have hcH : AllCells ([(b3, row 3 [.int .i64 64]), (b2, row 43 [.slice A b.length c]), (b12, row 3 [.int .i64 ((base + 1 + pre.length : Nat) : Int)]), (bd, row 25 [.pointer (some ⟨d, 0, none⟩)])] ++ C') := allCells_row (allCells_row (allCells_row (allCells_row hD'.cells)))
      have hTW := hT.via hsW
      obtain ⟨m, hm⟩ : ∃ m, min 64 (b.length - x * 64) = m := ⟨_, rfl⟩
      unfold chunkV
      rw [hm]
      have hm64 : m ≤ 64 := by omega
      have hpl : (partAt b x).length = m := by rw [← hm]; simp [partAt]
      replace hm := hid hm
      have hpl2 : (padS (partAt b x)).length = 64 := padS_len (by rw [hpl]; omega)
      have hsrc := part_src hTW hA x
      have hsp64 : splice zsec 0 (sv (partAt b x)) = sv (padS (partAt b x)) := pad_splice (by rw [hpl]; omega)
      have hwo := wrS_ops k base b pre
      have hpre : pre.length ≤ 1024 := by have := hlen2; omega
      have hsnoc := wrS_snoc k base b pre x
      replace hD' := hid hD'
      replace hsnoc := hid hsnoc
      replace hrec := hid hrec
      replace hsrc := hid hsrc
      replace hsp64 := hid hsp64
      replace hTW := hid hTW
      replace hlen2 := hid hlen2
      have hwk : (wrS k base b pre).ops + 1 ≤ 1048576 := by omega
      replace hwo := hid hwo
      replace hwk := hid hwk
      have hmin : (sv (partAt b x)).length = Nat.min m 64 := by rw [length_sv, hpl]; exact (Nat.min_eq_left hm64).symm
      have hfit : 0 + (sv (partAt b x)).length ≤ zsec.length := by rw [length_sv, hpl, length_zsec]; omega
      replace hmin := hid hmin
      replace hfit := hid hfit
      replace hpl := hid hpl
      replace hpl2 := hid hpl2
      gi_wp2_with (first
        | ((with_reducible refine gdi_al ?_); refine wli_of (wd_round _) rfl nofun (hn.al zc38 ?_); intro b14 w14 hb14 hn)
        | ((with_reducible refine gdi_slw ?_); refine wli_of (wd_round _) rfl nofun (wp_of_run (ex_sliceWhole ar38 (by first | exact ev rfl | rfl) (by decide) _) ?_))
        | ((with_reducible refine gdi_cp ?_); refine wli_of (wd_round _) rfl nofun (wp_of_run (ex_copy (cs := sv (partAt b x)) st43 (by first | exact ev rfl | rfl) (by first | exact ev rfl | rfl) (hn.at 0 rfl) hmin.out (hsrc.out _ _ hn) hfit.out (one_sv _) hsp64.out) ?_); replace hn := hn.setAt (k := 0) rfl (row 38 (sv (padS (partAt b x)))); simp only [List.set_cons_zero] at hn)
        | ((with_reducible refine gdi_ld (ty := 25) ?_); refine wli_of (wd_round _) rfl nofun (hn.ld 4 rfl rfl (sc_of rfl) (v := .pointer (some ⟨d, 0, none⟩)) rfl ?_))
        | ((with_reducible refine gdi_ld (ty := 3) ?_); refine wli_of (wd_round _) rfl nofun (hn.ld 3 rfl rfl sc3 rfl ?_))
        | ((with_reducible refine gdi_ld (ty := 38) ?_); refine wli_of (wd_round _) rfl nofun (hn.lda 0 rfl rfl ag38 (vs := sv (padS (partAt b x))) (by rw [length_sv, hpl2.out]; decide) (cut_all hpl2.out) ?_)))
      refine ⟨trivial, (wd_round _).calls ((write_z (a := ((base + 1 + pre.length : Nat) : Int)) (s := padS (partAt b x)) (Has.right (A := [_, _, _, _, _]) hn.has) hD'.out hwk.out hpl2.out).mono ?_)⟩
      rintro e w15 ⟨z, rfl, C2, hD2, hs'⟩
      replace hD2 := hid hD2
      replace hn := St.callR (A := [_, _, _, _, _]) hn hs'
      clear hs'
      gi_wp2_with (first
        | ((with_reducible refine gdi_ld (ty := 3) ?_); refine wli_of (wd_round _) rfl nofun (hn.ld 3 rfl rfl sc3 rfl ?_))
        | ((with_reducible refine gdi_st (ty := 3) ?_); refine wli_of (wd_round _) rfl nofun (hn.st0 3 rfl rfl sc3 (by first | exact ev rfl | rfl) (by rfl) (Nat.le_of_ble_eq_true rfl) ?_); intro w16 hn; simp only [List.cons_append, List.nil_append, List.set_cons_succ, List.set_cons_zero] at hn))
      have hk := hsW.trans hn
      have b3n := hn.has.known (b3, row 3 [.int .i64 64]) (by simp)
      have b2n := hn.has.known (b2, row 43 [.slice A b.length c]) (by simp)
      have b3o := hsW.has.known (b3, row 3 [.int .i64 64]) (by simp)
      have b2o := hsW.has.known (b2, row 43 [.slice A b.length c]) (by simp)
      refine ⟨St.keepsFrom hn hsW.has hcH _, fun y hy => ?_, Nat.le_trans hN hn.size, C2, by rw [hsnoc.out]; exact hD2.out, ?_⟩
      · simp only [List.mem_cons, List.not_mem_nil, or_false] at hy
        rcases hy with rfl | rfl
        · exact b2n.trans b2o.symm
        · exact b3n.trans b3o.symm
      · have e1 : (((base + 1 + (pre ++ [x]).length : Nat)) : Int) = ((base + 1 + pre.length : Nat) : Int) + 1 := by simp; omega
        rw [e1]
        exact St.drop (A := [_]) hk
    case done =>
      rintro D2 ys W hD2 rfl ⟨hN, C', hD', hsW⟩ hK
      have hcH : AllCells ([(b3, row 3 [.int .i64 64]), (b2, row 43 [.slice A b.length c]), (b12, row 3 [.int .i64 ((base + 1 + (List.range ((b.length + 63) / 64)).length : Nat) : Int)]), (bd, row 25 [.pointer (some ⟨d, 0, none⟩)])] ++ C') := allCells_row (allCells_row (allCells_row (allCells_row hD'.cells)))
      replace hsW := hsW.also hcH hK rfl (Nat.le_trans hs.size hD2)
      rw [wrS_range] at hD'
      have hwo := (wrTo_ops k base b ((b.length + 63) / 64)).2
      have hR : (b.length + 63) / 64 ≤ 1024 := by omega
      have hsv2 : saveOf k f b = (((wrTo k base b ((b.length + 63) / 64)).flush).write (base : Int) (headL ((HI + 1 : Nat) : Int) f b)).flush := hsv.out
      generalize wrTo k base b ((b.length + 63) / 64) = K1 at *
      clear hs hsv hseq h0 hcH
      have hsv := hid hsv2
      have hs := hsW
      clear hsW hsv2
      have hf1' := K1.flush_ops
      have hw1 : K1.ops + 1 ≤ 1048576 := by omega
      have hw2 : K1.flush.ops + 1 ≤ 1048576 := by omega
      have hw3 : K1.flush.ops + 1 + 1 ≤ 1048576 := by omega
      replace hw1 := hid hw1
      replace hw2 := hid hw2
      replace hw3 := hid hw3
      replace hwo := hid hwo
      replace hf1' := hid hf1'
      replace hD' := hid hD'
      go_upto_region 18 with (first
        | ((with_reducible refine gd_ld (ty := 25) ?_); refine wl_of rfl (hs.ld 4 rfl rfl (sc_of rfl) (v := .pointer (some ⟨d, 0, none⟩)) rfl ?_))
        | (go_at_call 15; refine (flush_any (Has.right (A := [_, _, _, _, _]) hs.has) hD'.out hw1.out).mono ?_; rintro e w2 ⟨rfl, C2, hDf, hs'⟩; replace hs := St.callR (A := [_, _, _, _, _]) hs hs'; clear hs'; replace hDf := hid hDf))
      replace hs := hs.drew
      have hadd := run_add1 HI (by omega)
      obtain ⟨zz, hzz⟩ : ∃ zz : Int, (if K1.flush.there (base : Int) = true then 0 else 2) = zz := ⟨_, rfl⟩
      have hwr := hid (fun (W : World) (hs : St w0 (keys C) ((D2, .deferred (some [])) :: ([(b3, row 3 [.int .i64 64]), (b2, row 43 [.slice A b.length c]), (b12, row 3 [.int .i64 ((base + 1 + (List.range ((b.length + 63) / 64)).length : Nat) : Int)]), (bd, row 25 [.pointer (some ⟨d, 0, none⟩)])] ++ C2)) W) =>
        (write_any (a := (base : Int)) (s := headL ((HI + 1 : Nat) : Int) f b) (Has.right (A := [_, _, _, _, _]) hs.has) hDf.out hw2.out (headL_len _ _ _)).mono (R' := fun e w' => e = .returned (.int .i64 zz) ∧ ∃ C3, Disk d (K1.flush.write (base : Int) (headL ((HI + 1 : Nat) : Int) f b)) C3 ∧ St w0 (keys C) ((D2, .deferred (some [])) :: ([(b3, row 3 [.int .i64 64]), (b2, row 43 [.slice A b.length c]), (b12, row 3 [.int .i64 ((base + 1 + (List.range ((b.length + 63) / 64)).length : Nat) : Int)]), (bd, row 25 [.pointer (some ⟨d, 0, none⟩)])] ++ C3)) w')
          (fun e w' ⟨he, C3, h3, h4⟩ => ⟨by rw [he, hzz], C3, h3, St.callR (A := [_, _, _, _, _]) hs h4⟩))
      replace hzz := hid hzz
      refine wp_region_tailU 7 (fun W => St w0 (keys C) ((D2, .deferred (some [])) :: ([(b3, row 3 [.int .i64 64]), (b2, row 43 [.slice A b.length c]), (b12, row 3 [.int .i64 ((base + 1 + (List.range ((b.length + 63) / 64)).length : Nat) : Int)]), (bd, row 25 [.pointer (some ⟨d, 0, none⟩)])] ++ C2)) W)
        (fun w' => ∃ C3, Disk d (K1.flush.write (base : Int) (headL ((HI + 1 : Nat) : Int) f b)) C3 ∧ St w0 (keys C) ((D2, .deferred (some [])) :: ([(b3, row 3 [.int .i64 64]), (b2, row 43 [.slice A b.length c]), (b12, row 3 [.int .i64 ((base + 1 + (List.range ((b.length + 63) / 64)).length : Nat) : Int)]), (bd, row 25 [.pointer (some ⟨d, 0, none⟩)])] ++ C3)) w') follows (by kernel_rfl) (by kernel_rfl) hs ?_
      refine LinU.rd rfl (by decide) (fun W hs => ex_ld_s (ev rfl) sc25 (row_cell (hs.at 4 rfl) 0)) (pu rfl (by simp only [List.set_cons_succ, List.set_cons_zero]; rfl)) ?_
      refine LinU.pure rfl (by decide) (ex_move (ev rfl)) (pu rfl (by simp only [List.set_cons_succ, List.set_cons_zero]; rfl)) ?_
      refine LinU.pure rfl (by decide) (ex_move (ev rfl)) (pu rfl (by simp only [List.set_cons_succ, List.set_cons_zero]; rfl)) ?_
      refine LinU.pure rfl (by decide) (fun w => ex_bin (ev rfl) evc (hadd w).1 (hadd w).2) (pu rfl (by simp only [List.set_cons_succ, List.set_cons_zero]; rfl)) ?_
      refine LinU.pure rfl (by decide) (ex_move (ev rfl)) (pu rfl (by simp only [List.set_cons_succ, List.set_cons_zero]; rfl)) ?_
      refine LinU.pure rfl (by decide) (ex_move (ev rfl)) (pu rfl (by simp only [List.set_cons_succ, List.set_cons_zero]; rfl)) ?_
      refine LinU.mid rfl (by decide) (fun W => ex_call (vs := [.int .i64 ((HI + 1 : Nat) : Int), .int .u32 f, .slice A b.length c]) rfl rfl (cf55 _ _)) (fun W hs => (header_any (ep := HI + 1) ((hT.via hs).start (by simp)) (by omega) hhi hf0 hf1).mono (fun e w' ⟨he, h2⟩ => ⟨he, by have h3 := hs.plus h2; rw [List.append_nil] at h3; exact h3⟩)) (pu rfl (by simp only [List.set_cons_succ, List.set_cons_zero]; rfl)) ?_
      refine LinU.call rfl rfl (fun W => ex_call (vs := [.pointer (some ⟨d, 0, none⟩), .int .i64 (base : Int), .agg (sv (headL ((HI + 1 : Nat) : Int) f b)).toArray]) rfl rfl (cf14 _ _)) (fun W hs => hwr.out W hs) (pu rfl (by simp only [List.set_cons_succ, List.set_cons_zero]; rfl)) ?_
      refine LinU.done ?_
      rintro w3 ⟨C3, hD3, hs⟩
      replace hD3 := hid hD3
      go_wp2_with (first
        | ((with_reducible refine gd_ld (ty := 25) ?_); refine wl_of rfl (hs.ld 4 rfl rfl (sc_of rfl) (v := .pointer (some ⟨d, 0, none⟩)) rfl ?_))
        | (go_at_call 15; refine (flush_any (Has.right (A := [_, _, _, _, _]) hs.has) hD3.out (Int.le_trans (Int.add_le_add_right (Dk.write_ops _ _ _).2 1) hw3.out)).mono ?_; rintro e w4 ⟨rfl, C4, hD4, hs'⟩; replace hs := St.callR (A := [_, _, _, _, _]) hs hs'; clear hs'; replace hD4 := hid hD4))
      refine ⟨by simp, .inl ⟨_, _, rfl, run_takeDeferred (hs.at 0 rfl), ?_⟩⟩
      replace hs := hs.shut (.deferred none)
      refine ⟨_, results29 rfl, ?_, ?_⟩
      · rfl
      · exact ⟨C4, by rw [hsv.out]; exact hD4.out, St.drop (A := [_, _, _, _]) hs⟩
    case stop => rintro _ _ _ _ _ _ h _; exact h.elim
  · rw [if_neg hz] at hsb
    obtain rfl : base = 0 := hsb
    have qz : (ns == 0) = false := by rw [beq_eq_false_iff_ne]; exact hz
    clear hz
    go_upto_region 11 with (first
      | ((with_reducible refine gd_ld (ty := 25) ?_); refine wl_of rfl (hs.ld 0 rfl rfl (sc_of rfl) (v := .pointer (some ⟨d, 0, none⟩)) rfl ?_))
      | (go_at_call 52; refine (hlk.out _ (Has.right (A := [_]) hs.has)).mono ?_; rintro e w' ⟨rfl, rfl⟩)
      | (go_at_call 50; refine (hsp.out _).mono ?_; rintro e w' ⟨rfl, rfl⟩)
      | ((with_reducible refine gd_al ?_); refine wl_of rfl (hs.al (zc_of rfl) ?_); intro b12 w hb12 hs)
      | ((with_reducible refine gd_st (ty := 3) ?_); refine wl_of rfl (hs.st0 0 rfl rfl (sc_of rfl) rfl (by rfl) (Nat.le_of_ble_eq_true rfl) ?_); intro w hs; replace hs : St w0 (keys C) ([(b12, row 3 [.int .i64 ((0 + 1 : Nat) : Int)]), (bd, row 25 [.pointer (some ⟨d, 0, none⟩)])] ++ C) w := hs))
    go_wp2_with (first
      | (go_at_call 54; refine (chunk_st hs A b.length c).mono ?_; rintro e w ⟨b2, b3, rfl, hs⟩))
    --GEN2
    have hBs3 := hs.at 0 rfl
    have hBs2 := hs.at 1 rfl
    have hlt3 := (Array.getElem?_eq_some_iff.1 hBs3).1
    have hlt2 := (Array.getElem?_eq_some_iff.1 hBs2).1
    obtain ⟨bb, o, hA⟩ : ∃ bb o, b.length = 0 ∨ A = some ⟨bb, o, none⟩ := txt_addr hT
    obtain ⟨hcap, hcm⟩ := txt_cap hT
    have hseq := chunk_stops (3 - 1) b2 b3 bb o b.length c (by omega) hcap hcm A hA w hBs2 hBs3
    have h0 : SvI w.heap.size w0 (keys C) d b12 b3 b2 bd k 0 b (.slice A b.length c) [] w := ⟨Nat.le_refl _, C, hD.out, hs⟩
    refine wpIn_wide.1 (wpIn_rangeFunc_ownH (n := 3) rfl (by decide) (gf := 80) (lb := #[.pointer (some ⟨b2, 0, none⟩), .pointer (some ⟨b3, 0, none⟩)]) rfl trivial (enters_of Try.func80 (by kernel_rfl) rfl) hseq keepB_t (keepB_b (by simp; exact ⟨hlt2, hlt3⟩)) (Below.refl _ _) (fun _ => rfl)
      (SvI w.heap.size w0 (keys C) d b12 b3 b2 bd k 0 b (.slice A b.length c)) (fun _ _ _ => False) ?hI ?hIx h0
      (fun x a' _ => a' = { tmps := #[Value.pointer (some ⟨d, 0, none⟩), Value.int .u32 f, Value.slice A b.length c, Value.pointer (some ⟨bd, 0, none⟩), undef, undef, Value.int .i64 (0 : Int), Value.int .i64 (HI : Int), Value.int .i64 ns, Value.int .i64 (ne : Int), nv, Value.int .i64 (0 : Int), Value.pointer (some ⟨b12, 0, none⟩), chunkV bb o b.length x, undef, Value.pointer (some ⟨d, 0, none⟩), Value.int .i64 (HI : Int), Value.bool false, Value.slice A b.length c, Value.int .i64 (b.length : Int), Value.pointer (some ⟨d, 0, none⟩), Value.int .i64 (n : Int), Value.int .i64 (room : Int), Value.bool false, Value.bool false, Value.pointer (some ⟨d, 0, none⟩), Value.int .i64 (n : Int), Value.int .i64 (sp : Int), Value.bool false, Value.bool false, Value.bool false, Value.int .i64 (HI : Int), Value.bool false, Value.tuple #[Value.int .i64 ns, Value.int .i64 (ne : Int), nv], Value.pointer (some ⟨d, 0, none⟩), Value.int .u32 f, Value.tuple #[Value.int .i64 ns, Value.int .i64 (ne : Int), nv], Value.int .i64 ns, Value.int .i64 (ne : Int), nv, Value.int .i64 ns, Value.bool false, undef, undef, undef, Value.int .i64 (0 : Int), Value.int .i64 (1 : Int), Value.slice A b.length c, Value.func (.func 80) #[] #[Value.pointer (some ⟨b2, 0, none⟩), Value.pointer (some ⟨b3, 0, none⟩)], chunkV bb o b.length x, undef, undef, undef, undef, undef, undef, undef, undef, undef, undef, undef, undef, undef, undef, undef, undef, undef, undef, undef, undef, undef], defers := [] })
      ?hAx ?assign ?body ?done ?stop)
    case hI => exact fun pre X Y r hp hg hr => hp.grown hs.size hg hr
    case hIx => exact fun _ _ _ _ _ h _ _ => h
    case hAx => exact fun x a' _ X Y r h _ _ => h
    case assign =>
      rintro l pre x W K hI hK
      simp only [encC, zip1, List.setIfInBounds_toArray, List.set_cons_succ, List.set_cons_zero]
      gi_wp2
      exact hK _ _ (KeepsFrom.refl _ _) (fun _ _ => rfl) hI rfl
    case body =>
      rintro l pre x a' W hle hrec ⟨hN, C', hD', hsW⟩ rfl hlen2
      have hn := St.start hsW.has
      have hcH : AllCells ([(b3, row 3 [.int .i64 64]), (b2, row 43 [.slice A b.length c]), (b12, row 3 [.int .i64 ((0 + 1 + pre.length : Nat) : Int)]), (bd, row 25 [.pointer (some ⟨d, 0, none⟩)])] ++ C') := allCells_row (allCells_row (allCells_row (allCells_row hD'.cells)))
      have hTW := hT.via hsW
      obtain ⟨m, hm⟩ : ∃ m, min 64 (b.length - x * 64) = m := ⟨_, rfl⟩
      unfold chunkV
      rw [hm]
      have hm64 : m ≤ 64 := by omega
      have hpl : (partAt b x).length = m := by rw [← hm]; simp [partAt]
      replace hm := hid hm
      have hpl2 : (padS (partAt b x)).length = 64 := padS_len (by rw [hpl]; omega)
      have hsrc := part_src hTW hA x
      have hsp64 : splice zsec 0 (sv (partAt b x)) = sv (padS (partAt b x)) := pad_splice (by rw [hpl]; omega)
      have hwo := wrS_ops k 0 b pre
      have hpre : pre.length ≤ 1024 := by have := hlen2; omega
      have hsnoc := wrS_snoc k 0 b pre x
      replace hD' := hid hD'
      replace hsnoc := hid hsnoc
      replace hrec := hid hrec
      replace hsrc := hid hsrc
      replace hsp64 := hid hsp64
      replace hTW := hid hTW
      replace hlen2 := hid hlen2
      have hwk : (wrS k 0 b pre).ops + 1 ≤ 1048576 := by omega
      replace hwo := hid hwo
      replace hwk := hid hwk
      have hmin : (sv (partAt b x)).length = Nat.min m 64 := by rw [length_sv, hpl]; exact (Nat.min_eq_left hm64).symm
      have hfit : 0 + (sv (partAt b x)).length ≤ zsec.length := by rw [length_sv, hpl, length_zsec]; omega
      replace hmin := hid hmin
      replace hfit := hid hfit
      replace hpl := hid hpl
      replace hpl2 := hid hpl2
      gi_wp2_with (first
        | ((with_reducible refine gdi_al ?_); refine wli_of (wd_round _) rfl nofun (hn.al zc38 ?_); intro b14 w14 hb14 hn)
        | ((with_reducible refine gdi_slw ?_); refine wli_of (wd_round _) rfl nofun (wp_of_run (ex_sliceWhole ar38 (by first | exact ev rfl | rfl) (by decide) _) ?_))
        | ((with_reducible refine gdi_cp ?_); refine wli_of (wd_round _) rfl nofun (wp_of_run (ex_copy (cs := sv (partAt b x)) st43 (by first | exact ev rfl | rfl) (by first | exact ev rfl | rfl) (hn.at 0 rfl) hmin.out (hsrc.out _ _ hn) hfit.out (one_sv _) hsp64.out) ?_); replace hn := hn.setAt (k := 0) rfl (row 38 (sv (padS (partAt b x)))); simp only [List.set_cons_zero] at hn)
        | ((with_reducible refine gdi_ld (ty := 25) ?_); refine wli_of (wd_round _) rfl nofun (hn.ld 4 rfl rfl (sc_of rfl) (v := .pointer (some ⟨d, 0, none⟩)) rfl ?_))
        | ((with_reducible refine gdi_ld (ty := 3) ?_); refine wli_of (wd_round _) rfl nofun (hn.ld 3 rfl rfl sc3 rfl ?_))
        | ((with_reducible refine gdi_ld (ty := 38) ?_); refine wli_of (wd_round _) rfl nofun (hn.lda 0 rfl rfl ag38 (vs := sv (padS (partAt b x))) (by rw [length_sv, hpl2.out]; decide) (cut_all hpl2.out) ?_)))
      refine ⟨trivial, (wd_round _).calls ((write_z (a := ((0 + 1 + pre.length : Nat) : Int)) (s := padS (partAt b x)) (Has.right (A := [_, _, _, _, _]) hn.has) hD'.out hwk.out hpl2.out).mono ?_)⟩
      rintro e w15 ⟨z, rfl, C2, hD2, hs'⟩
      replace hD2 := hid hD2
      replace hn := St.callR (A := [_, _, _, _, _]) hn hs'
      clear hs'
      gi_wp2_with (first
        | ((with_reducible refine gdi_ld (ty := 3) ?_); refine wli_of (wd_round _) rfl nofun (hn.ld 3 rfl rfl sc3 rfl ?_))
        | ((with_reducible refine gdi_st (ty := 3) ?_); refine wli_of (wd_round _) rfl nofun (hn.st0 3 rfl rfl sc3 (by first | exact ev rfl | rfl) (by rfl) (Nat.le_of_ble_eq_true rfl) ?_); intro w16 hn; simp only [List.cons_append, List.nil_append, List.set_cons_succ, List.set_cons_zero] at hn))
      have hk := hsW.trans hn
      have b3n := hn.has.known (b3, row 3 [.int .i64 64]) (by simp)
      have b2n := hn.has.known (b2, row 43 [.slice A b.length c]) (by simp)
      have b3o := hsW.has.known (b3, row 3 [.int .i64 64]) (by simp)
      have b2o := hsW.has.known (b2, row 43 [.slice A b.length c]) (by simp)
      refine ⟨St.keepsFrom hn hsW.has hcH _, fun y hy => ?_, Nat.le_trans hN hn.size, C2, by rw [hsnoc.out]; exact hD2.out, ?_⟩
      · simp only [List.mem_cons, List.not_mem_nil, or_false] at hy
        rcases hy with rfl | rfl
        · exact b2n.trans b2o.symm
        · exact b3n.trans b3o.symm
      · have e1 : (((0 + 1 + (pre ++ [x]).length : Nat)) : Int) = ((0 + 1 + pre.length : Nat) : Int) + 1 := by simp; omega
        rw [e1]
        exact St.drop (A := [_]) hk
    case done =>
      rintro D2 ys W hD2 rfl ⟨hN, C', hD', hsW⟩ hK
      have hcH : AllCells ([(b3, row 3 [.int .i64 64]), (b2, row 43 [.slice A b.length c]), (b12, row 3 [.int .i64 ((0 + 1 + (List.range ((b.length + 63) / 64)).length : Nat) : Int)]), (bd, row 25 [.pointer (some ⟨d, 0, none⟩)])] ++ C') := allCells_row (allCells_row (allCells_row (allCells_row hD'.cells)))
      replace hsW := hsW.also hcH hK rfl (Nat.le_trans hs.size hD2)
      rw [wrS_range] at hD'
      have hwo := (wrTo_ops k 0 b ((b.length + 63) / 64)).2
      have hR : (b.length + 63) / 64 ≤ 1024 := by omega
      have hsv2 : saveOf k f b = (((wrTo k 0 b ((b.length + 63) / 64)).flush).write (0 : Int) (headL ((HI + 1 : Nat) : Int) f b)).flush := hsv.out
      generalize wrTo k 0 b ((b.length + 63) / 64) = K1 at *
      clear hs hsv hseq h0 hcH
      have hsv := hid hsv2
      have hs := hsW
      clear hsW hsv2
      have hf1' := K1.flush_ops
      have hw1 : K1.ops + 1 ≤ 1048576 := by omega
      have hw2 : K1.flush.ops + 1 ≤ 1048576 := by omega
      have hw3 : K1.flush.ops + 1 + 1 ≤ 1048576 := by omega
      replace hw1 := hid hw1
      replace hw2 := hid hw2
      replace hw3 := hid hw3
      replace hwo := hid hwo
      replace hf1' := hid hf1'
      replace hD' := hid hD'
      go_upto_region 18 with (first
        | ((with_reducible refine gd_ld (ty := 25) ?_); refine wl_of rfl (hs.ld 4 rfl rfl (sc_of rfl) (v := .pointer (some ⟨d, 0, none⟩)) rfl ?_))
        | (go_at_call 15; refine (flush_any (Has.right (A := [_, _, _, _, _]) hs.has) hD'.out hw1.out).mono ?_; rintro e w2 ⟨rfl, C2, hDf, hs'⟩; replace hs := St.callR (A := [_, _, _, _, _]) hs hs'; clear hs'; replace hDf := hid hDf))
      replace hs := hs.drew
      have hadd := run_add1 HI (by omega)
      obtain ⟨zz, hzz⟩ : ∃ zz : Int, (if K1.flush.there (0 : Int) = true then 0 else 2) = zz := ⟨_, rfl⟩
      have hwr := hid (fun (W : World) (hs : St w0 (keys C) ((D2, .deferred (some [])) :: ([(b3, row 3 [.int .i64 64]), (b2, row 43 [.slice A b.length c]), (b12, row 3 [.int .i64 ((0 + 1 + (List.range ((b.length + 63) / 64)).length : Nat) : Int)]), (bd, row 25 [.pointer (some ⟨d, 0, none⟩)])] ++ C2)) W) =>
        (write_any (a := (0 : Int)) (s := headL ((HI + 1 : Nat) : Int) f b) (Has.right (A := [_, _, _, _, _]) hs.has) hDf.out hw2.out (headL_len _ _ _)).mono (R' := fun e w' => e = .returned (.int .i64 zz) ∧ ∃ C3, Disk d (K1.flush.write (0 : Int) (headL ((HI + 1 : Nat) : Int) f b)) C3 ∧ St w0 (keys C) ((D2, .deferred (some [])) :: ([(b3, row 3 [.int .i64 64]), (b2, row 43 [.slice A b.length c]), (b12, row 3 [.int .i64 ((0 + 1 + (List.range ((b.length + 63) / 64)).length : Nat) : Int)]), (bd, row 25 [.pointer (some ⟨d, 0, none⟩)])] ++ C3)) w')
          (fun e w' ⟨he, C3, h3, h4⟩ => ⟨by rw [he, hzz], C3, h3, St.callR (A := [_, _, _, _, _]) hs h4⟩))
      replace hzz := hid hzz
      refine wp_region_tailU 7 (fun W => St w0 (keys C) ((D2, .deferred (some [])) :: ([(b3, row 3 [.int .i64 64]), (b2, row 43 [.slice A b.length c]), (b12, row 3 [.int .i64 ((0 + 1 + (List.range ((b.length + 63) / 64)).length : Nat) : Int)]), (bd, row 25 [.pointer (some ⟨d, 0, none⟩)])] ++ C2)) W)
        (fun w' => ∃ C3, Disk d (K1.flush.write (0 : Int) (headL ((HI + 1 : Nat) : Int) f b)) C3 ∧ St w0 (keys C) ((D2, .deferred (some [])) :: ([(b3, row 3 [.int .i64 64]), (b2, row 43 [.slice A b.length c]), (b12, row 3 [.int .i64 ((0 + 1 + (List.range ((b.length + 63) / 64)).length : Nat) : Int)]), (bd, row 25 [.pointer (some ⟨d, 0, none⟩)])] ++ C3)) w') follows (by kernel_rfl) (by kernel_rfl) hs ?_
      refine LinU.rd rfl (by decide) (fun W hs => ex_ld_s (ev rfl) sc25 (row_cell (hs.at 4 rfl) 0)) (pu rfl (by simp only [List.set_cons_succ, List.set_cons_zero]; rfl)) ?_
      refine LinU.pure rfl (by decide) (ex_move (ev rfl)) (pu rfl (by simp only [List.set_cons_succ, List.set_cons_zero]; rfl)) ?_
      refine LinU.pure rfl (by decide) (ex_move (ev rfl)) (pu rfl (by simp only [List.set_cons_succ, List.set_cons_zero]; rfl)) ?_
      refine LinU.pure rfl (by decide) (fun w => ex_bin (ev rfl) evc (hadd w).1 (hadd w).2) (pu rfl (by simp only [List.set_cons_succ, List.set_cons_zero]; rfl)) ?_
      refine LinU.pure rfl (by decide) (ex_move (ev rfl)) (pu rfl (by simp only [List.set_cons_succ, List.set_cons_zero]; rfl)) ?_
      refine LinU.pure rfl (by decide) (ex_move (ev rfl)) (pu rfl (by simp only [List.set_cons_succ, List.set_cons_zero]; rfl)) ?_
      refine LinU.mid rfl (by decide) (fun W => ex_call (vs := [.int .i64 ((HI + 1 : Nat) : Int), .int .u32 f, .slice A b.length c]) rfl rfl (cf55 _ _)) (fun W hs => (header_any (ep := HI + 1) ((hT.via hs).start (by simp)) (by omega) hhi hf0 hf1).mono (fun e w' ⟨he, h2⟩ => ⟨he, by have h3 := hs.plus h2; rw [List.append_nil] at h3; exact h3⟩)) (pu rfl (by simp only [List.set_cons_succ, List.set_cons_zero]; rfl)) ?_
      refine LinU.call rfl rfl (fun W => ex_call (vs := [.pointer (some ⟨d, 0, none⟩), .int .i64 (0 : Int), .agg (sv (headL ((HI + 1 : Nat) : Int) f b)).toArray]) rfl rfl (cf14 _ _)) (fun W hs => hwr.out W hs) (pu rfl (by simp only [List.set_cons_succ, List.set_cons_zero]; rfl)) ?_
      refine LinU.done ?_
      rintro w3 ⟨C3, hD3, hs⟩
      replace hD3 := hid hD3
      go_wp2_with (first
        | ((with_reducible refine gd_ld (ty := 25) ?_); refine wl_of rfl (hs.ld 4 rfl rfl (sc_of rfl) (v := .pointer (some ⟨d, 0, none⟩)) rfl ?_))
        | (go_at_call 15; refine (flush_any (Has.right (A := [_, _, _, _, _]) hs.has) hD3.out (Int.le_trans (Int.add_le_add_right (Dk.write_ops _ _ _).2 1) hw3.out)).mono ?_; rintro e w4 ⟨rfl, C4, hD4, hs'⟩; replace hs := St.callR (A := [_, _, _, _, _]) hs hs'; clear hs'; replace hD4 := hid hD4))
      refine ⟨by simp, .inl ⟨_, _, rfl, run_takeDeferred (hs.at 0 rfl), ?_⟩⟩
      replace hs := hs.shut (.deferred none)
      refine ⟨_, results29 rfl, ?_, ?_⟩
      · rfl
      · exact ⟨C4, by rw [hsv.out]; exact hD4.out, St.drop (A := [_, _, _, _]) hs⟩
    case stop => rintro _ _ _ _ _ _ h _; exact h.elim
end Go.Proofs.Ytclingkhdmhhoaa

/- Plain laws of disks, with no program in sight. No condition. -/
import Derived.Test.YtclingkhdmhhoaaSame
import Derived.Test.YtclingkhdmhhoaaIntSet
namespace Go.Proofs.Ytclingkhdmhhoaa
open Go.RowKit
set_option linter.unusedSimpArgs false

theorem snoc_ind {α : Type} {P : List α → Prop} (h0 : P []) (h1 : ∀ l x, P l → P (l ++ [x])) (l : List α) : P l := by
  have h : ∀ r : List α, P r.reverse := by
    intro r
    induction r with
    | nil => simpa using h0
    | cons x r ih => rw [List.reverse_cons]; exact h1 _ _ ih
  simpa using h l.reverse
abbrev Wr := Int × List UInt8
def writeAll (k : Dk) (cs : List Wr) : Dk := cs.foldl (fun k c => k.write c.1 c.2) k
theorem writeAll_snoc (k : Dk) (cs : List Wr) (c : Wr) : writeAll k (cs ++ [c]) = (writeAll k cs).write c.1 c.2 := by simp [writeAll]
def touched (n : Nat) (cs : List Wr) : List Int := cs.foldl (fun S c => if decide (0 ≤ c.1 ∧ c.1 < (n : Int)) = true then c.1 :: S else S) []
theorem touched_snoc (n : Nat) (cs : List Wr) (c : Wr) : touched n (cs ++ [c]) = if decide (0 ≤ c.1 ∧ c.1 < (n : Int)) = true then c.1 :: touched n cs else touched n cs := by simp [touched]

theorem write_lasts (k : Dk) (a : Int) (s : List UInt8) : (k.write a s).lasts = k.lasts := by unfold Dk.write; split <;> rfl
theorem write_stop (k : Dk) (a : Int) (s : List UInt8) : (k.write a s).stop = k.stop := by unfold Dk.write; split <;> rfl
theorem write_ops (k : Dk) (a : Int) (s : List UInt8) : (k.write a s).ops ≤ k.ops + 1 := by unfold Dk.write; split <;> (try simp) <;> omega
theorem write_later (k : Dk) (a : Int) (s : List UInt8) : ∀ p ∈ (k.write a s).later, p ∈ k.later ∨ (decide (0 ≤ a ∧ a < k.lasts.length) = true ∧ (p.1 : Int) = a) := by
  intro p hp
  unfold Dk.write at hp
  split at hp
  · rename_i h
    simp only [List.mem_append, List.mem_singleton] at hp
    rcases hp with hp | rfl
    · exact .inl hp
    · refine .inr ⟨h.1, ?_⟩
      have := h.1
      simp only [Dk.there, decide_eq_true_eq] at this
      simp; omega
  · exact .inl hp

theorem writeAll_keeps (k : Dk) : ∀ (cs : List Wr), (writeAll k cs).lasts = k.lasts ∧ (writeAll k cs).stop = k.stop ∧ (writeAll k cs).ops ≤ k.ops + cs.length ∧
    ∀ p ∈ (writeAll k cs).later, p ∈ k.later ∨ (p.1 : Int) ∈ touched k.lasts.length cs := by
  intro cs
  induction cs using snoc_ind with
  | h0 => exact ⟨rfl, rfl, by simp [writeAll], fun p hp => .inl hp⟩
  | h1 cs c ih =>
    obtain ⟨h1, h2, h3, h4⟩ := ih
    rw [writeAll_snoc]
    refine ⟨by rw [write_lasts, h1], by rw [write_stop, h2], ?_, ?_⟩
    · have := write_ops (writeAll k cs) c.1 c.2
      simp; omega
    · intro p hp
      rw [touched_snoc]
      rcases write_later _ _ _ p hp with hp | ⟨hv, he⟩
      · rcases h4 p hp with hp | hp
        · exact .inl hp
        · refine .inr ?_
          split
          · simp [hp]
          · exact hp
      · refine .inr ?_
        rw [h1] at hv
        rw [if_pos hv]
        simp [he]

theorem settleM_other (f : Nat → Nat) {x : Nat} : ∀ (ps : List (Nat × List UInt8)) (i : Nat) (l : List (List UInt8)), (∀ p ∈ ps, p.1 ≠ x) → (settleM f i ps l)[x]? = l[x]?
  | [], i, l, _ => rfl
  | p :: ps, i, l, h => by
    simp only [settleM]
    rw [settleM_other f ps (i + 1) _ (fun q hq => h q (by simp [hq]))]
    unfold put1
    rw [List.getElem?_set_ne (h p (by simp))]

theorem crash_later (k : Dk) (kp : List Bool) (torn tear : Int) : (k.crash kp torn tear).later = [] := rfl
theorem crash_seen (k : Dk) (kp : List Bool) (torn tear : Int) : (k.crash kp torn tear).seen = k.settled (crashN kp torn tear) := rfl
theorem crash_crash_seen (k : Dk) (kp : List Bool) (torn tear : Int) : ((k.crash kp torn tear).crash kp torn tear).seen = (k.crash kp torn tear).seen := rfl

/-- what was flushed stands behind a crash, where nothing was written later -/
theorem flushed_stands (k : Dk) (hk : k.later = []) (cs : List Wr) (kp : List Bool) (torn tear : Int) (i : Nat) (hi : ¬ (i : Int) ∈ touched k.lasts.length cs) :
    ((writeAll k cs).crash kp torn tear).seen[i]? = k.seen[i]? := by
  obtain ⟨h1, h2, h3, h4⟩ := writeAll_keeps k cs
  rw [crash_seen]
  unfold Dk.settled
  rw [settleM_other _ _ _ _ (fun p hp e => ?_)]
  · rw [h1]
    unfold Dk.seen Dk.settled
    rw [hk]; rfl
  · rcases h4 p hp with hp | hp
    · rw [hk] at hp; cases hp
    · rw [e] at hp; exact hi hp

theorem settleM_len (f : Nat → Nat) : ∀ (ps : List (Nat × List UInt8)) (i : Nat) (l : List (List UInt8)), (settleM f i ps l).length = l.length
  | [], i, l => rfl
  | p :: ps, i, l => by simp only [settleM]; rw [settleM_len f ps (i + 1), put1_len]
theorem flush_ops (k : Dk) : k.flush.ops ≤ k.ops + 1 := by unfold Dk.flush; split <;> (try simp) <;> omega
theorem flush_len (k : Dk) : k.flush.lasts.length = k.lasts.length := by
  unfold Dk.flush; split
  · rfl
  · exact settleM_len _ _ _ _
theorem dead_new (k : Dk) (h : k.stop = -1) : k.dead = false := by simp [Dk.dead, deadB, h]
theorem flush_later (k : Dk) (h : k.stop = -1) : k.flush.later = [] ∧ k.flush.stop = -1 := by simp [Dk.flush, dead_new k h, h]

theorem seen_len (k : Dk) : k.seen.length = k.lasts.length := settleM_len _ _ _ _
theorem crash_len (k : Dk) (kp : List Bool) (torn tear : Int) : (k.crash kp torn tear).lasts.length = k.lasts.length := settleM_len _ _ _ _
theorem Disk.ok {d : Nat} {k : Dk} {C : List (Nat × Obj)} (h : Disk d k C) : k.Ok := h.1
theorem Dk.Ok.seen {k : Dk} (h : k.Ok) : Sec k.seen := (h.settled (fun _ => Nat.le_refl _)).1
theorem sectors_n {w0 : World} {d n : Nat} {k : Dk} {C : List (Nat × Obj)} (h : Has w0 C) (hd : Disk d k C) (hn : k.lasts.length = n) :
    Calls Try.prog 16 #[.pointer (some ⟨d, 0, none⟩)] w0 fun e w' => ∃ g cap junk, e = .returned (.slice (some ⟨g, 0, none⟩) n cap) ∧ St w0 (keys C) ((g, row 38 (secs k.seen ++ junk)) :: C) w' ∧ n ≤ cap := by
  subst hn; exact sectors_any h hd
theorem same_n {w0 : World} {ga gb ca cb n m : Nat} {A B : List (List UInt8)} {ja jb : List Value} (ha : w0.heap[ga]? = some (row 38 (secs A ++ ja))) (hb : w0.heap[gb]? = some (row 38 (secs B ++ jb)))
    (hA : Sec A) (hB : Sec B) (hn : A.length = n) (hm : B.length = m) (hlA : n ≤ 65536) (hlB : m ≤ 65536) :
    Calls Try.prog 18 #[.slice (some ⟨ga, 0, none⟩) n ca, .slice (some ⟨gb, 0, none⟩) m cb] w0 fun e w' => e = .returned (.bool (A == B)) ∧ ∃ n, w' = w0.drewN n := by
  subst hn; subst hm; exact same_any ha hb hA hB hlA hlB
end Go.Proofs.Ytclingkhdmhhoaa

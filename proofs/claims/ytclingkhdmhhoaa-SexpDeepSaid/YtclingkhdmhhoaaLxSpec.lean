/- Plain: what tokens a text has, said on lists of bytes; its laws. No condition. -/
namespace Go.Proofs.Ytclingkhdmhhoaa
set_option linter.unusedSimpArgs false
set_option linter.unusedVariables false

def blankI (c : Int) : Bool := c == 32 || c == 9 || c == 10 || c == 13
def digitI (c : Int) : Bool := decide (48 ≤ c) && decide (c ≤ 57)
def plainI (c : Int) : Bool := blankI c || (decide (32 < c) && decide (c < 127))
def markI (c : Int) : Bool := c == 126 || c == 33 || c == 64 || c == 36 || c == 37 || c == 94 || c == 38 || c == 42 || c == 95 || c == 45 || c == 43 || c == 61 || c == 60 || c == 62 || c == 46 || c == 63 || c == 47
def letterI (c : Int) : Bool := (decide (97 ≤ c) && decide (c ≤ 122)) || (decide (65 ≤ c) && decide (c ≤ 90)) || markI c
def innerI (c : Int) : Bool := digitI c || letterI c
def lineI (c : Int) : Bool := c != 10
def barI (c : Int) : Bool := plainI c && c != 124 && c != 92
def quoI (c : Int) : Bool := plainI c && c != 34

structure Tok where
  kind : Int
  text : List UInt8
  at_ : Int

/-- how many bytes from the head on are so -/
def spanN (p : Int → Bool) : List UInt8 → Nat
  | [] => 0
  | c :: cs => if p c.toNat = true then spanN p cs + 1 else 0
theorem spanN_le (p : Int → Bool) : ∀ l, spanN p l ≤ l.length
  | [] => Nat.le_refl _
  | c :: cs => by unfold spanN; split <;> simp [spanN_le p cs]
theorem spanN_in (p : Int → Bool) : ∀ (l : List UInt8) (j : Nat), j < spanN p l → ∃ c, l[j]? = some c ∧ p c.toNat = true
  | [], j, h => by simp [spanN] at h
  | c :: cs, j, h => by
    unfold spanN at h
    split at h
    · rename_i hp
      cases j with
      | zero => exact ⟨c, rfl, hp⟩
      | succ j => exact spanN_in p cs j (by omega)
    · omega
theorem spanN_out (p : Int → Bool) : ∀ (l : List UInt8) (c : UInt8), l[spanN p l]? = some c → p c.toNat = false
  | [], c, h => by simp at h
  | d :: cs, c, h => by
    unfold spanN at h
    split at h
    · exact spanN_out p cs c (by simpa using h)
    · rename_i hp
      simp at h; subst h; simpa using hp
/-- it is told by its two sides -/
theorem spanN_eq {p : Int → Bool} : ∀ {l : List UInt8} {n : Nat}, (∀ j c, j < n → l[j]? = some c → p c.toNat = true) → (∀ c, l[n]? = some c → p c.toNat = false) → n ≤ l.length → spanN p l = n
  | [], n, _, _, h => by simp at h; subst h; rfl
  | c :: cs, 0, _, h2, _ => by
    have := h2 c rfl
    simp [spanN, this]
  | c :: cs, n + 1, h1, h2, h => by
    have hc := h1 0 c (by omega) rfl
    have := spanN_eq (p := p) (l := cs) (n := n) (fun j d hj hd => h1 (j + 1) d (by omega) (by simpa using hd)) (fun d hd => h2 d (by simpa using hd)) (by simpa using h)
    simp [spanN, hc, this]
/-- what follows doesn't matter, if it isn't so -/
theorem spanN_app {p : Int → Bool} : ∀ (l r : List UInt8), (∀ c, r.head? = some c → p c.toNat = false) → spanN p (l ++ r) = spanN p l
  | [], [], _ => rfl
  | [], c :: r, h => by simp [spanN, h c rfl]
  | c :: l, r, h => by
    simp only [List.cons_append, spanN]
    rw [spanN_app l r h]
theorem spanN_app_lt {p : Int → Bool} : ∀ (l r : List UInt8), spanN p l < l.length → spanN p (l ++ r) = spanN p l
  | [], r, h => by simp at h
  | c :: l, r, h => by
    simp only [List.cons_append, spanN] at *
    split
    · rename_i hp
      rw [if_pos hp] at h
      rw [spanN_app_lt l r (by simpa using h)]
    · rfl

/-- does this byte stand there? -/
def nextI (l : List UInt8) (at_ : Nat) (ch : Int) : Bool := match l[at_]? with | some x => ((x.toNat : Int) == ch) | none => false
/-- is the byte there so? -/
def holdsI (p : Int → Bool) (l : List UInt8) (at_ : Nat) : Bool := match l[at_]? with | some x => p x.toNat | none => false
theorem nextI_drop (l : List UInt8) (a b : Nat) (ch : Int) : nextI (l.drop a) b ch = nextI l (a + b) ch := by simp [nextI, List.getElem?_drop]
theorem holdsI_drop (p : Int → Bool) (l : List UInt8) (a b : Nat) : holdsI p (l.drop a) b = holdsI p l (a + b) := by simp [holdsI, List.getElem?_drop]
theorem nextI_cons (c : UInt8) (l : List UInt8) (a : Nat) (ch : Int) : nextI (c :: l) (a + 1) ch = nextI l a ch := by simp [nextI]
theorem nextI_lt {l : List UInt8} {a : Nat} {ch : Int} (h : nextI l a ch = true) : a < l.length := by
  unfold nextI at h
  split at h
  · rename_i x hx; exact (List.getElem?_eq_some_iff.1 hx).1
  · cases h
theorem nextI_app {l r : List UInt8} {a : Nat} {ch : Int} (h : a < l.length) : nextI (l ++ r) a ch = nextI l a ch := by simp [nextI, List.getElem?_append_left h]
theorem holdsI_app {p : Int → Bool} {l r : List UInt8} {a : Nat} (h : a < l.length) : holdsI p (l ++ r) a = holdsI p l a := by simp [holdsI, List.getElem?_append_left h]

/-! ### blanks and comments -/
/-- how many bytes are skipped; in a comment? -/
def skipN : Bool → List UInt8 → Nat
  | _, [] => 0
  | false, c :: cs => if blankI c.toNat = true then skipN false cs + 1 else if (c.toNat : Int) = 59 then skipN true cs + 1 else 0
  | true, c :: cs => if (c.toNat : Int) = 10 then skipN false cs + 1 else skipN true cs + 1
theorem skipN_le : ∀ (b : Bool) (l : List UInt8), skipN b l ≤ l.length
  | b, [] => by cases b <;> simp [skipN]
  | false, c :: cs => by
    have h1 := skipN_le false cs
    have h2 := skipN_le true cs
    unfold skipN; split
    · simp [h1]
    · split <;> simp [h2]
  | true, c :: cs => by
    have h1 := skipN_le false cs
    have h2 := skipN_le true cs
    unfold skipN; split <;> simp [h1, h2]
theorem skipN_blank : ∀ (l : List UInt8), skipN false l = spanN blankI l + skipN false (l.drop (spanN blankI l))
  | [] => rfl
  | c :: cs => by
    by_cases h : blankI c.toNat = true
    · have := skipN_blank cs
      simp only [skipN, spanN, h, if_true, List.drop_succ_cons]
      omega
    · simp [spanN, h]
theorem skipN_line : ∀ (l : List UInt8), skipN true l = spanN lineI l + skipN false (l.drop (spanN lineI l))
  | [] => rfl
  | c :: cs => by
    by_cases h : (c.toNat : Int) = 10
    · have hl : lineI c.toNat = false := by simp [lineI, h]
      have hb : blankI c.toNat = true := by simp [blankI, h]
      have e1 : skipN true (c :: cs) = skipN false cs + 1 := by simp only [skipN, if_pos h]
      have e2 : skipN false (c :: cs) = skipN false cs + 1 := by simp only [skipN, if_pos hb]
      have e3 : spanN lineI (c :: cs) = 0 := by simp only [spanN, hl]; rfl
      rw [e3, List.drop_zero, e1, e2]; omega
    · have hl : lineI c.toNat = true := by simp [lineI, h]
      have := skipN_line cs
      simp only [skipN, spanN, h, hl, if_true, if_false, List.drop_succ_cons]
      omega
/-- at a comment -/
theorem skipN_semi {l : List UInt8} (h : nextI l 0 59 = true) : skipN false l = spanN lineI l + skipN false (l.drop (spanN lineI l)) := by
  cases l with
  | nil => simp [nextI] at h
  | cons c cs =>
    have hc : (c.toNat : Int) = 59 := by simpa [nextI] using h
    have hb : blankI c.toNat = false := by rw [hc]; rfl
    have hl : lineI c.toNat = true := by rw [hc]; rfl
    have := skipN_line cs
    have e1 : skipN false (c :: cs) = skipN true cs + 1 := by simp only [skipN, if_neg (by simp [hb] : ¬ blankI c.toNat = true), if_pos hc]
    have e3 : spanN lineI (c :: cs) = spanN lineI cs + 1 := by simp only [spanN, if_pos hl]
    rw [e3, List.drop_succ_cons, e1]; omega
theorem skipN_stop {l : List UInt8} (h1 : holdsI blankI l 0 = false) (h2 : nextI l 0 59 = false) : skipN false l = 0 := by
  cases l with
  | nil => rfl
  | cons c cs =>
    have hc : ¬ (c.toNat : Int) = 59 := by simpa [nextI] using h2
    have hb : blankI c.toNat = false := by simpa [holdsI] using h1
    simp [skipN, hc, hb]
theorem skipN_one {l : List UInt8} {c : UInt8} {cs : List UInt8} (hl : l = c :: cs) (h1 : blankI c.toNat = true) : skipN false l = 1 + skipN false cs := by
  subst hl; simp [skipN, h1]; omega
/-- what is skipped whole -/
theorem skipN_all : ∀ (b : Bool) (l : List UInt8), skipN b l = l.length → ∃ b', ∀ r, skipN b (l ++ r) = l.length + skipN b' r
  | b, [], _ => ⟨b, by simp⟩
  | false, c :: cs, h => by
    unfold skipN at h
    split at h
    · rename_i hb
      obtain ⟨b', hb'⟩ := skipN_all false cs (by simpa using h)
      exact ⟨b', fun r => by simp [skipN, hb, hb']; omega⟩
    · split at h
      · rename_i hb hc
        obtain ⟨b', hb'⟩ := skipN_all true cs (by simpa using h)
        refine ⟨b', fun r => ?_⟩
        simp only [List.cons_append, skipN, if_neg hb, if_pos hc, List.length_cons, hb']
        omega
      · simp at h
  | true, c :: cs, h => by
    unfold skipN at h
    split at h
    · rename_i hc
      obtain ⟨b', hb'⟩ := skipN_all false cs (by simpa using h)
      exact ⟨b', fun r => by simp [skipN, hc, hb']; omega⟩
    · rename_i hc
      obtain ⟨b', hb'⟩ := skipN_all true cs (by simpa using h)
      exact ⟨b', fun r => by simp [skipN, hc, hb']; omega⟩
theorem skipN_some : ∀ (b : Bool) (l r : List UInt8), skipN b l < l.length → skipN b (l ++ r) = skipN b l
  | b, [], r, h => by simp at h
  | false, c :: cs, r, h => by
    simp only [List.cons_append, skipN, List.length_cons] at *
    split
    · rename_i hb
      rw [if_pos hb] at h
      rw [skipN_some false cs r (by omega)]
    · rename_i hb
      rw [if_neg hb] at h
      split
      · rename_i hc
        rw [if_pos hc] at h
        rw [skipN_some true cs r (by omega)]
      · rfl
  | true, c :: cs, r, h => by
    simp only [List.cons_append, skipN, List.length_cons] at *
    split
    · rename_i hb
      rw [if_pos hb] at h
      rw [skipN_some false cs r (by omega)]
    · rename_i hb
      rw [if_neg hb] at h
      rw [skipN_some true cs r (by omega)]
/-- behind what is skipped stands no blank, and no comment begins -/
theorem skipN_end : ∀ (b : Bool) (l : List UInt8), ∀ c, l[skipN b l]? = some c → blankI c.toNat = false ∧ (c.toNat : Int) ≠ 59
  | b, [], c, h => by simp at h
  | false, d :: cs, c, h => by
    simp only [skipN] at h
    split at h
    · exact skipN_end false cs c (by simpa using h)
    · rename_i hb
      split at h
      · exact skipN_end true cs c (by simpa using h)
      · rename_i hc
        simp at h; subst h
        exact ⟨by simpa using hb, hc⟩
  | true, d :: cs, c, h => by
    simp only [skipN] at h
    split at h
    · exact skipN_end false cs c (by simpa using h)
    · exact skipN_end true cs c (by simpa using h)

/-! ### strings -/
/-- the text of a string behind its first quotation mark, and how long it is -/
def strL : List UInt8 → Except Nat (List UInt8 × Nat)
  | [] => .error 0
  | [c] => if plainI c.toNat = true then if (c.toNat : Int) = 34 then .ok ([], 1) else .error 1 else .error 0
  | c :: d :: ds =>
    if plainI c.toNat = true then
      if (c.toNat : Int) = 34 then
        if (d.toNat : Int) = 34 then
          match strL ds with
          | .ok (t, n) => .ok (d :: t, n + 2)
          | .error e => .error (e + 2)
        else .ok ([], 1)
      else
        match strL (d :: ds) with
        | .ok (t, n) => .ok (c :: t, n + 1)
        | .error e => .error (e + 1)
    else .error 0
def addT (p : List UInt8) (k : Nat) : Except Nat (List UInt8 × Nat) → Except Nat (List UInt8 × Nat)
  | .ok (t, n) => .ok (p ++ t, k + n)
  | .error e => .error (k + e)
theorem addT_addT (p q : List UInt8) (k m : Nat) (r : Except Nat (List UInt8 × Nat)) : addT p k (addT q m r) = addT (p ++ q) (k + m) r := by
  cases r with
  | ok x => simp [addT, Nat.add_assoc]
  | error e => simp [addT, Nat.add_assoc]
theorem strL_quo {c : UInt8} {cs : List UInt8} (h : quoI c.toNat = true) : strL (c :: cs) = addT [c] 1 (strL cs) := by
  have h1 : plainI c.toNat = true := by simp [quoI] at h; exact h.1
  have h2 : ¬ (c.toNat : Int) = 34 := by simp [quoI] at h; simpa using h.2
  cases cs with
  | nil => simp only [strL, if_pos h1, if_neg h2, addT]
  | cons d ds =>
    rw [strL, if_pos h1, if_neg h2]
    cases strL (d :: ds) with
    | ok x => simp [addT, Nat.add_comm]
    | error e => simp [addT, Nat.add_comm]
theorem strL_part : ∀ (l : List UInt8), strL l = addT (l.take (spanN quoI l)) (spanN quoI l) (strL (l.drop (spanN quoI l)))
  | [] => by simp [strL, spanN, addT]
  | c :: cs => by
    by_cases h : quoI c.toNat = true
    · have e3 : spanN quoI (c :: cs) = spanN quoI cs + 1 := by simp only [spanN, if_pos h]
      rw [strL_quo h, strL_part cs, addT_addT, e3, List.take_succ_cons, List.drop_succ_cons, Nat.add_comm 1 (spanN quoI cs)]
      rfl
    · simp only [spanN, h, if_neg, Bool.false_eq_true, not_false_eq_true, List.take_zero, List.drop_zero]
      cases strL (c :: cs) with
      | ok x => simp [addT]
      | error e => simp [addT]
theorem strL_end {l : List UInt8} (h : spanN quoI l = 0) (hq : nextI l 0 34 = false) : strL l = .error 0 := by
  cases l with
  | nil => rfl
  | cons c cs =>
    have hc : ¬ (c.toNat : Int) = 34 := by simpa [nextI] using hq
    have hp : plainI c.toNat = false := by
      unfold spanN at h
      split at h
      · omega
      · rename_i hn
        simp [quoI] at hn
        cases hpp : plainI c.toNat with
        | false => rfl
        | true => exact absurd (by simpa using hn hpp) hc
    cases cs <;> simp [strL, hp]
theorem strL_one {l : List UInt8} (hq : nextI l 0 34 = true) (hq2 : nextI l 1 34 = false) : strL l = .ok ([], 1) := by
  cases l with
  | nil => simp [nextI] at hq
  | cons c cs =>
    have hc : (c.toNat : Int) = 34 := by simpa [nextI] using hq
    have hp : plainI c.toNat = true := by rw [hc]; rfl
    cases cs with
    | nil => rw [strL, if_pos hp, if_pos hc]
    | cons d ds =>
      have hd : ¬ (d.toNat : Int) = 34 := by simpa [nextI] using hq2
      rw [strL, if_pos hp, if_pos hc, if_neg hd]
theorem strL_two {l : List UInt8} (hq : nextI l 0 34 = true) (hq2 : nextI l 1 34 = true) : strL l = addT [34] 2 (strL (l.drop 2)) := by
  cases l with
  | nil => simp [nextI] at hq
  | cons c cs =>
    have hc : (c.toNat : Int) = 34 := by simpa [nextI] using hq
    have hp : plainI c.toNat = true := by rw [hc]; rfl
    cases cs with
    | nil => simp [nextI] at hq2
    | cons d ds =>
      have hd : (d.toNat : Int) = 34 := by simpa [nextI] using hq2
      have hd' : d = 34 := by
        have : d.toNat = 34 := by omega
        exact UInt8.toNat.inj this
      rw [strL, if_pos hp, if_pos hc, if_pos hd]
      subst hd'
      simp only [List.drop_succ_cons, List.drop_zero]
      cases strL ds with
      | ok x => simp [addT, Nat.add_comm]
      | error e => simp [addT, Nat.add_comm]

/-! ### tokens -/
def finL (s : List UInt8) (k : Int) (n : Nat) : Except Nat (Int × List UInt8 × Nat) := if holdsI innerI s n = true then .error n else .ok (k, s.take n, n)
def numL (s : List UInt8) : Except Nat (Int × List UInt8 × Nat) :=
  if 1 < spanN digitI s ∧ nextI s 0 48 = true then .error 1
  else if nextI s (spanN digitI s) 46 = true then
    if spanN digitI (s.drop (spanN digitI s + 1)) = 0 then .error (spanN digitI s + 1) else finL s 5 (spanN digitI s + 1 + spanN digitI (s.drop (spanN digitI s + 1)))
  else finL s 4 (spanN digitI s)
/-- the token at the head: its kind, its text, how long it is; or where it is wrong -/
def tokC (c : UInt8) (cs : List UInt8) : Except Nat (Int × List UInt8 × Nat) :=
  if (c.toNat : Int) = 40 then .ok (1, [c], 1)
  else if (c.toNat : Int) = 41 then .ok (2, [c], 1)
  else if (c.toNat : Int) = 124 then if nextI cs (spanN barI cs) 124 = true then .ok (3, cs.take (spanN barI cs), spanN barI cs + 2) else .error (spanN barI cs + 1)
  else if digitI c.toNat = true then numL (c :: cs)
  else if (c.toNat : Int) = 58 then if spanN innerI cs = 0 then .error 1 else .ok (6, cs.take (spanN innerI cs), spanN innerI cs + 1)
  else if (c.toNat : Int) = 34 then match strL cs with
    | .ok (t, n) => .ok (7, t, n + 1)
    | .error e => .error (e + 1)
  else if letterI c.toNat = true then .ok (3, (c :: cs).take (spanN innerI (c :: cs)), spanN innerI (c :: cs))
  else .error 0
def tokL : List UInt8 → Except Nat (Int × List UInt8 × Nat)
  | [] => .error 0
  | c :: cs => tokC c cs

theorem strL_bd : ∀ (n : Nat) (l : List UInt8), l.length ≤ n → (∀ t k, strL l = .ok (t, k) → 1 ≤ k ∧ k ≤ l.length) ∧ (∀ e, strL l = .error e → e ≤ l.length) := by
  intro n
  induction n with
  | zero =>
    intro l h
    have : l = [] := List.eq_nil_of_length_eq_zero (by omega)
    subst this
    exact ⟨fun t k h => by simp [strL] at h, fun e h => by simp [strL] at h; omega⟩
  | succ n ih =>
    intro l h
    match l, h with
    | [], h => exact ⟨fun t k h => by simp [strL] at h, fun e h => by simp [strL] at h; omega⟩
    | [c], h =>
      refine ⟨fun t k h => ?_, fun e h => ?_⟩
      · simp only [strL] at h
        split at h
        · split at h
          · cases h; simp
          · cases h
        · cases h
      · simp only [strL] at h
        split at h
        · split at h
          · cases h
          · cases h; simp
        · cases h; simp
    | c :: d :: ds, h =>
      have h1 := ih (d :: ds) (by simpa using h)
      have h2 := ih ds (by simp at h; omega)
      rw [strL]
      simp only [List.length_cons] at *
      split
      · split
        · split
          · cases hs : strL ds with
            | ok x =>
              obtain ⟨t, m⟩ := x
              have := h2.1 t m hs
              refine ⟨fun t k h => ?_, fun e h => (by cases h)⟩
              cases h; omega
            | error e =>
              have := h2.2 e hs
              refine ⟨fun t k h => (by cases h), fun e h => ?_⟩
              cases h; omega
          · refine ⟨fun t k h => ?_, fun e h => (by cases h)⟩
            cases h; omega
        · cases hs : strL (d :: ds) with
          | ok x =>
            obtain ⟨t, m⟩ := x
            have := h1.1 t m hs
            refine ⟨fun t k h => ?_, fun e h => (by cases h)⟩
            cases h; omega
          | error e =>
            have := h1.2 e hs
            refine ⟨fun t k h => (by cases h), fun e h => ?_⟩
            cases h; omega
      · refine ⟨fun t k h => (by cases h), fun e h => ?_⟩
        cases h; omega

theorem finL_ok {s : List UInt8} {k : Int} {n : Nat} {kd : Int} {t : List UInt8} {m : Nat} (h : finL s k n = .ok (kd, t, m)) : m = n ∧ kd = k ∧ t = s.take n ∧ holdsI innerI s n = false := by
  unfold finL at h
  split at h
  · cases h
  · rename_i hh
    simp at h
    exact ⟨h.2.2.symm, h.1.symm, h.2.1.symm, by simpa using hh⟩
theorem holdsI_lt {p : Int → Bool} {l : List UInt8} {a : Nat} (h : holdsI p l a = true) : a < l.length := by
  unfold holdsI at h
  split at h
  · rename_i x hx; exact (List.getElem?_eq_some_iff.1 hx).1
  · cases h
theorem finL_err {s : List UInt8} {k : Int} {n e : Nat} (h : finL s k n = .error e) : e < s.length := by
  unfold finL at h
  split at h
  · rename_i hh
    have := holdsI_lt hh
    simp at h; omega
  · cases h
theorem numL_bd {s : List UInt8} (hs : 1 ≤ spanN digitI s) : (∀ kd t m, numL s = .ok (kd, t, m) → 1 ≤ m ∧ m ≤ s.length) ∧ (∀ e, numL s = .error e → e ≤ s.length) := by
  have h0 := spanN_le digitI s
  have h1 := spanN_le digitI (s.drop (spanN digitI s + 1))
  rw [List.length_drop] at h1
  unfold numL
  split
  · exact ⟨fun kd t m h => (by cases h), fun e h => (by cases h; omega)⟩
  · split
    · rename_i hn
      have h2 := nextI_lt hn
      split
      · exact ⟨fun kd t m h => (by cases h), fun e h => (by cases h; omega)⟩
      · exact ⟨fun kd t m h => by have := (finL_ok h).1; omega, fun e h => by have := finL_err h; omega⟩
    · exact ⟨fun kd t m h => by have := (finL_ok h).1; omega, fun e h => by have := finL_err h; omega⟩
theorem tokL_bd {l : List UInt8} : (∀ kd t m, tokL l = .ok (kd, t, m) → 1 ≤ m ∧ m ≤ l.length) ∧ (∀ e, tokL l = .error e → e ≤ l.length) := by
  cases l with
  | nil => exact ⟨fun kd t m h => (by cases h), fun e h => (by cases h; simp)⟩
  | cons c cs =>
    have hb := spanN_le barI cs
    have hi := spanN_le innerI cs
    have hi2 := spanN_le innerI (c :: cs)
    have hst := strL_bd cs.length cs (Nat.le_refl _)
    have hnum : digitI c.toNat = true → _ := fun hd => numL_bd (s := c :: cs) (by simp [spanN, hd])
    simp only [List.length_cons] at *
    show (∀ kd t m, tokC c cs = .ok (kd, t, m) → 1 ≤ m ∧ m ≤ cs.length + 1) ∧ (∀ e, tokC c cs = .error e → e ≤ cs.length + 1)
    unfold tokC
    split
    · exact ⟨fun kd t m h => (by cases h; omega), fun e h => (by cases h)⟩
    split
    · exact ⟨fun kd t m h => (by cases h; omega), fun e h => (by cases h)⟩
    split
    · split
      · rename_i hn
        have := nextI_lt hn
        exact ⟨fun kd t m h => (by cases h; omega), fun e h => (by cases h)⟩
      · exact ⟨fun kd t m h => (by cases h), fun e h => (by cases h; omega)⟩
    split
    · rename_i hd
      exact hnum hd
    split
    · split
      · exact ⟨fun kd t m h => (by cases h), fun e h => (by cases h; omega)⟩
      · exact ⟨fun kd t m h => (by cases h; omega), fun e h => (by cases h)⟩
    split
    · cases hs : strL cs with
      | ok x =>
        obtain ⟨t, n⟩ := x
        have := hst.1 t n hs
        exact ⟨fun kd t m h => (by cases h; omega), fun e h => (by cases h)⟩
      | error e =>
        have := hst.2 e hs
        exact ⟨fun kd t m h => (by cases h), fun e h => (by cases h; omega)⟩
    split
    · rename_i hl
      have hin : innerI c.toNat = true := by simp only [innerI, hl, Bool.or_true]
      have h1 : 1 ≤ spanN innerI (c :: cs) := by simp [spanN, hin]
      refine ⟨fun kd t m h => ?_, fun e h => (by cases h)⟩
      simp only [Except.ok.injEq, Prod.mk.injEq] at h
      omega
    · exact ⟨fun kd t m h => (by cases h), fun e h => (by cases h; omega)⟩

/-! ### a text -/
def readN : Nat → List UInt8 → Nat → Except Nat (List Tok)
  | 0, _, _ => .ok []
  | n + 1, s, a =>
    if s.length ≤ skipN false s then .ok []
    else match tokL (s.drop (skipN false s)) with
      | .error e => .error (a + skipN false s + e)
      | .ok (kd, t, m) => match readN n (s.drop (skipN false s + m)) (a + skipN false s + m) with
        | .ok ts => .ok (⟨kd, t, ((a + skipN false s : Nat) : Int)⟩ :: ts)
        | .error e => .error e
theorem readN_fuel : ∀ (n m : Nat) (s : List UInt8) (a : Nat), s.length < n → s.length < m → readN n s a = readN m s a
  | 0, m, s, a, h, _ => by omega
  | n + 1, 0, s, a, _, h => by omega
  | n + 1, m + 1, s, a, h1, h2 => by
    unfold readN
    split
    · rfl
    · rename_i hk
      cases ht : tokL (s.drop (skipN false s)) with
      | error e => rfl
      | ok x =>
        obtain ⟨kd, t, k⟩ := x
        have := (tokL_bd.1 kd t k ht)
        dsimp only
        rw [readN_fuel n m _ _ (by simp; omega) (by simp; omega)]
/-- the tokens of a text that begins at a place -/
def readC (s : List UInt8) (a : Nat) : Except Nat (List Tok) := readN (s.length + 1) s a
theorem readC_eq (s : List UInt8) (a : Nat) : readC s a =
    if s.length ≤ skipN false s then .ok []
    else match tokL (s.drop (skipN false s)) with
      | .error e => .error (a + skipN false s + e)
      | .ok (kd, t, m) => match readC (s.drop (skipN false s + m)) (a + skipN false s + m) with
        | .ok ts => .ok (⟨kd, t, ((a + skipN false s : Nat) : Int)⟩ :: ts)
        | .error e => .error e := by
  rw [readC, readN]
  split
  · rfl
  · rename_i hk
    cases ht : tokL (s.drop (skipN false s)) with
    | error e => rfl
    | ok x =>
      obtain ⟨kd, t, k⟩ := x
      have := (tokL_bd.1 kd t k ht)
      dsimp only
      rw [readC, readN_fuel s.length ((s.drop (skipN false s + k)).length + 1) _ _ (by simp; omega) (by simp)]
/-- with what came out ahead -/
def preT (o : List Tok) : Except Nat (List Tok) → Except Nat (List Tok)
  | .ok ts => .ok (o ++ ts)
  | .error e => .error e
theorem preT_nil (r : Except Nat (List Tok)) : preT [] r = r := by cases r <;> rfl
theorem preT_preT (o p : List Tok) (r : Except Nat (List Tok)) : preT o (preT p r) = preT (o ++ p) r := by cases r <;> simp [preT]
theorem readC_end {s : List UInt8} {a : Nat} (h : s.length ≤ skipN false s) : readC s a = .ok [] := by rw [readC_eq, if_pos h]
theorem readC_bad {s : List UInt8} {a e : Nat} (h : skipN false s < s.length) (ht : tokL (s.drop (skipN false s)) = .error e) : readC s a = .error (a + skipN false s + e) := by
  rw [readC_eq, if_neg (by omega), ht]
theorem readC_tok {s : List UInt8} {a m : Nat} {kd : Int} {t : List UInt8} (h : skipN false s < s.length) (ht : tokL (s.drop (skipN false s)) = .ok (kd, t, m)) :
    readC s a = preT [⟨kd, t, ((a + skipN false s : Nat) : Int)⟩] (readC (s.drop (skipN false s + m)) (a + skipN false s + m)) := by
  rw [readC_eq, if_neg (by omega), ht]
  dsimp only
  cases readC (s.drop (skipN false s + m)) (a + skipN false s + m) <;> rfl

/-! ### two texts, a comment between -/
def Tok.shift (k : Nat) (t : Tok) : Tok := ⟨t.kind, t.text, t.at_ + k⟩
def mapT (f : Tok → Tok) : Except Nat (List Tok) → Option (List Tok)
  | .ok ts => some (ts.map f)
  | .error _ => none
theorem readN_shift : ∀ (n : Nat) (s : List UInt8) (a k : Nat), (∀ ts, readN n s a = .ok ts → readN n s (a + k) = .ok (ts.map (Tok.shift k)))
  | 0, s, a, k => by intro ts h; cases h; rfl
  | n + 1, s, a, k => by
    intro ts h
    unfold readN at *
    split at h
    · rename_i hl
      cases h
      rw [if_pos hl]; rfl
    · rename_i hl
      rw [if_neg hl]
      cases ht : tokL (s.drop (skipN false s)) with
      | error e => rw [ht] at h; cases h
      | ok x =>
        obtain ⟨kd, t, m⟩ := x
        rw [ht] at h
        dsimp only at h ⊢
        cases hr : readN n (s.drop (skipN false s + m)) (a + skipN false s + m) with
        | error e => rw [hr] at h; cases h
        | ok us =>
          rw [hr] at h
          cases h
          have := readN_shift n _ _ k us hr
          rw [show a + k + skipN false s + m = a + skipN false s + m + k by omega, this]
          simp [Tok.shift]; omega
theorem readC_shift {s : List UInt8} {a k : Nat} {ts : List Tok} (h : readC s a = .ok ts) : readC s (a + k) = .ok (ts.map (Tok.shift k)) := readN_shift _ _ _ _ _ h

theorem strL_app : ∀ (n : Nat) (l r : List UInt8) (t : List UInt8) (k : Nat), l.length ≤ n → strL l = .ok (t, k) → (∀ c, r.head? = some c → (c.toNat : Int) ≠ 34) → strL (l ++ r) = .ok (t, k) := by
  intro n
  induction n with
  | zero =>
    intro l r t k h hs
    have : l = [] := List.eq_nil_of_length_eq_zero (by omega)
    subst this; cases hs
  | succ n ih =>
    intro l r t k h hs hr
    match l, h with
    | [], h => cases hs
    | [c], h =>
      simp only [strL] at hs
      split at hs
      · split at hs
        · rename_i hp hc
          cases hs
          refine strL_one (by simp [nextI, hc]) ?_
          cases r with
          | nil => simp [nextI]
          | cons d ds =>
            have := hr d rfl
            simp [nextI, this]
        · cases hs
      · cases hs
    | c :: d :: ds, h =>
      rw [strL] at hs
      show strL (c :: d :: (ds ++ r)) = _
      rw [strL]
      split at hs
      · rename_i hp
        rw [if_pos hp]
        split at hs
        · rename_i hc
          rw [if_pos hc]
          split at hs
          · rename_i hd
            rw [if_pos hd]
            cases hx : strL ds with
            | error e => rw [hx] at hs; cases hs
            | ok x =>
              obtain ⟨t', k'⟩ := x
              rw [hx] at hs
              rw [ih ds r t' k' (by simp at h; omega) hx hr]
              exact hs
          · rename_i hd
            rw [if_neg hd]; exact hs
        · rename_i hc
          rw [if_neg hc]
          cases hx : strL (d :: ds) with
          | error e => rw [hx] at hs; cases hs
          | ok x =>
            obtain ⟨t', k'⟩ := x
            rw [hx] at hs
            have := ih (d :: ds) r t' k' (by simpa using h) hx hr
            rw [List.cons_append] at this
            rw [this]
            exact hs
      · cases hs
/-- what follows doesn't matter: it begins with the end of a line -/
theorem take_app {α : Type} {l r : List α} {n : Nat} (h : n ≤ l.length) : (l ++ r).take n = l.take n := List.take_append_of_le_length h
theorem drop_app {α : Type} {l r : List α} {n : Nat} (h : n ≤ l.length) : (l ++ r).drop n = l.drop n ++ r := List.drop_append_of_le_length h
theorem holds_app_nl {p : Int → Bool} (hp : p 10 = false) {l r : List UInt8} (hr : r.head? = some 10) (n : Nat) (h : n ≤ l.length) (hf : holdsI p l n = false) : holdsI p (l ++ r) n = false := by
  rcases Nat.lt_or_ge n l.length with hlt | hge
  · rw [holdsI_app hlt]; exact hf
  · have : n = l.length := by omega
    subst this
    cases r with
    | nil => cases hr
    | cons d ds =>
      simp at hr; subst hr
      simpa [holdsI] using hp
theorem next_app_nl {ch : Int} (hp : ch ≠ 10) {l r : List UInt8} (hr : r.head? = some 10) (n : Nat) (h : n ≤ l.length) : nextI (l ++ r) n ch = nextI l n ch := by
  rcases Nat.lt_or_ge n l.length with hlt | hge
  · rw [nextI_app hlt]
  · have : n = l.length := by omega
    subst this
    cases r with
    | nil => cases hr
    | cons d ds =>
      simp at hr; subst hr
      simp [nextI]; omega
theorem span_app_nl {p : Int → Bool} (hp : p 10 = false) {l r : List UInt8} (hr : r.head? = some 10) : spanN p (l ++ r) = spanN p l :=
  spanN_app l r fun c hc => by
    rw [hr] at hc; cases hc; exact hp
theorem fin_app {s r : List UInt8} (hr : r.head? = some 10) {k kd : Int} {n m : Nat} {t : List UInt8} (hn : n ≤ s.length) (h : finL s k n = .ok (kd, t, m)) : finL (s ++ r) k n = .ok (kd, t, m) := by
  have h4 := finL_ok h
  unfold finL at h ⊢
  rw [holds_app_nl (by rfl) hr n hn h4.2.2.2, take_app hn]
  rw [h4.2.2.2] at h
  exact h
theorem num_app {s r : List UInt8} (hr : r.head? = some 10) {kd : Int} {m : Nat} {t : List UInt8} (h : numL s = .ok (kd, t, m)) : numL (s ++ r) = .ok (kd, t, m) := by
  have h0 := spanN_le digitI s
  unfold numL at h ⊢
  rw [span_app_nl (by rfl) hr, next_app_nl (by decide) hr 0 (by omega), next_app_nl (by decide) hr _ h0]
  split at h
  · cases h
  · rename_i h1
    rw [if_neg h1]
    split at h
    · rename_i h2
      have hlt := nextI_lt h2
      have h5 := spanN_le digitI (s.drop (spanN digitI s + 1))
      rw [List.length_drop] at h5
      rw [if_pos h2, drop_app (by omega), span_app_nl (by rfl) hr]
      split at h
      · cases h
      · rename_i h3
        rw [if_neg h3]
        exact fin_app hr (by omega) h
    · rename_i h2
      rw [if_neg h2]
      exact fin_app hr h0 h
theorem tok_app {l r : List UInt8} (hr : r.head? = some 10) {kd : Int} {t : List UInt8} {m : Nat} (h : tokL l = .ok (kd, t, m)) : tokL (l ++ r) = .ok (kd, t, m) := by
  cases l with
  | nil => cases h
  | cons c cs =>
    have hb := spanN_le barI cs
    have hi := spanN_le innerI cs
    have hi2 := spanN_le innerI (c :: cs)
    have h : tokC c cs = _ := h
    show tokC c (cs ++ r) = _
    unfold tokC at h ⊢
    rw [span_app_nl (p := innerI) (by rfl) hr, take_app hi]
    rw [show c :: (cs ++ r) = (c :: cs) ++ r from rfl, span_app_nl (p := innerI) (by rfl) hr, take_app hi2]
    split at h
    · rename_i h1; rw [if_pos h1]; exact h
    rename_i h1; rw [if_neg h1]
    split at h
    · rename_i h1; rw [if_pos h1]; exact h
    rename_i h1; rw [if_neg h1]
    split at h
    · rename_i h1; rw [if_pos h1]
      split at h
      · rename_i h2
        have hlt := nextI_lt h2
        rw [spanN_app_lt cs r hlt, nextI_app hlt, if_pos h2, take_app hb]; exact h
      · cases h
    rename_i h1; rw [if_neg h1]
    split at h
    · rename_i h1; rw [if_pos h1]; exact num_app hr h
    rename_i h1; rw [if_neg h1]
    split at h
    · rename_i h1; rw [if_pos h1]; exact h
    rename_i h1; rw [if_neg h1]
    split at h
    · rename_i h1
      rw [if_pos h1]
      cases hs : strL cs with
      | error e => rw [hs] at h; cases h
      | ok x =>
        obtain ⟨t', k'⟩ := x
        rw [hs] at h
        rw [strL_app cs.length cs r t' k' (Nat.le_refl _) hs (fun c hc => by rw [hr] at hc; cases hc; decide)]
        exact h
    rename_i h1; rw [if_neg h1]
    exact h
/-- a comment and what is behind it, whether or not one had begun -/
theorem skip_line_end : ∀ (c r : List UInt8), (∀ x ∈ c, (x.toNat : Int) ≠ 10) → skipN true (c ++ 10 :: r) = c.length + 1 + skipN false r
  | [], r, _ => by
    rw [List.nil_append, skipN, if_pos (by decide)]; simp; omega
  | x :: c, r, h => by
    have := skip_line_end c r fun y hy => h y (by simp [hy])
    rw [List.cons_append, skipN, if_neg (h x (by simp)), this, List.length_cons]; omega
theorem skip_mid (b : Bool) (c r : List UInt8) (hc : ∀ x ∈ c, (x.toNat : Int) ≠ 10) : skipN b ((10 :: 59 :: c) ++ [10] ++ r) = c.length + 3 + skipN false r := by
  have h1 : skipN false (59 :: (c ++ 10 :: r)) = c.length + 2 + skipN false r := by
    rw [skipN, if_neg (by decide), if_pos (by decide), skip_line_end c r hc]; omega
  have e : (10 :: 59 :: c) ++ [10] ++ r = 10 :: 59 :: (c ++ 10 :: r) := by simp
  rw [e]
  cases b with
  | false => rw [skipN, if_pos (by decide), h1]; omega
  | true => rw [skipN, if_pos (by decide), h1]; omega
theorem read_join (c b : List UInt8) (hc : ∀ x ∈ c, (x.toNat : Int) ≠ 10) : ∀ (n : Nat) (s : List UInt8) (p : Nat) (xs ys : List Tok), s.length ≤ n → readC s p = .ok xs →
    readC b (p + s.length + (c.length + 3)) = .ok ys → readC (s ++ ((10 :: 59 :: c) ++ [10] ++ b)) p = .ok (xs ++ ys) := by
  intro n
  induction n with
  | zero =>
    intro s p xs ys hn hx hy
    have : s = [] := List.eq_nil_of_length_eq_zero (by omega)
    subst this
    have h0 : readC [] p = .ok [] := readC_end (by simp)
    rw [h0] at hx; cases hx
    rw [List.nil_append, List.nil_append, readC_eq, skip_mid false c b hc]
    rw [readC_eq] at hy
    have el : ((10 :: 59 :: c) ++ [10] ++ b).length = c.length + 3 + b.length := by simp; omega
    rw [el]
    have ed : ∀ k, ((10 :: 59 :: c) ++ [10] ++ b).drop (c.length + 3 + k) = b.drop k := by
      intro k
      rw [← List.drop_drop]; congr 1
      exact List.drop_left' (by simp)
    split at hy
    · rename_i h; rw [if_pos (by omega)]; exact hy
    · rename_i h
      rw [if_neg (by omega), ed]
      cases ht : tokL (b.drop (skipN false b)) with
      | error e => rw [ht] at hy; cases hy
      | ok x =>
        obtain ⟨kd, t, m⟩ := x
        rw [ht] at hy
        dsimp only at hy ⊢
        rw [show c.length + 3 + skipN false b + m = c.length + 3 + (skipN false b + m) by omega, ed]
        simp only [List.length_nil, Nat.add_zero] at hy
        rw [show p + (c.length + 3 + skipN false b) + m = p + (c.length + 3) + skipN false b + m by omega, show p + (c.length + 3 + skipN false b) = p + (c.length + 3) + skipN false b by omega]
        exact hy
  | succ n ih =>
    intro s p xs ys hn hx hy
    by_cases hk : s.length ≤ skipN false s
    · -- nothing but blanks
      have hks : skipN false s = s.length := by have := skipN_le false s; omega
      rw [readC_end hk] at hx; cases hx
      obtain ⟨b', hb'⟩ := skipN_all false s hks
      rw [readC_eq, hb', skip_mid b' c b hc]
      rw [readC_eq] at hy
      have el : (s ++ ((10 :: 59 :: c) ++ [10] ++ b)).length = s.length + (c.length + 3) + b.length := by simp; omega
      rw [el]
      have ed : ∀ k, (s ++ ((10 :: 59 :: c) ++ [10] ++ b)).drop (s.length + (c.length + 3 + k)) = b.drop k := by
        intro k
        rw [← List.drop_drop, List.drop_left, ← List.drop_drop]; congr 1
        exact List.drop_left' (by simp)
      split at hy
      · rename_i h; rw [if_pos (by omega)]; exact hy
      · rename_i h
        rw [if_neg (by omega), ed]
        cases ht : tokL (b.drop (skipN false b)) with
        | error e => rw [ht] at hy; cases hy
        | ok x =>
          obtain ⟨kd, t, m⟩ := x
          rw [ht] at hy
          dsimp only at hy ⊢
          rw [show s.length + (c.length + 3 + skipN false b) + m = s.length + (c.length + 3 + (skipN false b + m)) by omega, ed]
          rw [show p + (s.length + (c.length + 3 + skipN false b)) + m = p + s.length + (c.length + 3) + skipN false b + m by omega, show p + (s.length + (c.length + 3 + skipN false b)) = p + s.length + (c.length + 3) + skipN false b by omega]
          exact hy
    · have hk' : skipN false s < s.length := by omega
      have hsk := skipN_some false s ((10 :: 59 :: c) ++ [10] ++ b) hk'
      cases ht : tokL (s.drop (skipN false s)) with
      | error e => rw [readC_bad hk' ht] at hx; cases hx
      | ok x =>
        obtain ⟨kd, t, m⟩ := x
        have hm := tokL_bd.1 kd t m ht
        rw [List.length_drop] at hm
        rw [readC_tok hk' ht] at hx
        cases hr : readC (s.drop (skipN false s + m)) (p + skipN false s + m) with
        | error e => rw [hr] at hx; cases hx
        | ok us =>
          rw [hr] at hx
          cases hx
          have h1 := ih (s.drop (skipN false s + m)) (p + skipN false s + m) us ys (by simp; omega) hr (by
            rw [List.length_drop]
            rw [show p + skipN false s + m + (s.length - (skipN false s + m)) + (c.length + 3) = p + s.length + (c.length + 3) by omega]; exact hy)
          have ht2 := tok_app (r := (10 :: 59 :: c) ++ [10] ++ b) rfl ht
          rw [← drop_app (by omega), ← hsk] at ht2
          rw [readC_tok (by rw [hsk]; simp; omega) ht2, hsk, drop_app (by omega), h1]
          simp [preT]
end Go.Proofs.Ytclingkhdmhhoaa

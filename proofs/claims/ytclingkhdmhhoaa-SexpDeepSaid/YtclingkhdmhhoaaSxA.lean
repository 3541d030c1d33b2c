/- Chapter 8's plain words: trees, how they lie in memory, what the reader does with a row of tokens. No condition. -/
import Derived.Test.YtclingkhdmhhoaaLxX
import Derived.Test.YtclingkhdmhhoaaSets
namespace Go.Proofs.Ytclingkhdmhhoaa
open Go.RowKit
set_option linter.unusedSimpArgs false
set_option linter.unusedVariables false

inductive Tr where
  | mk (list : Bool) (tok : Tok) (kids : List Tr)
def zTok : Tok := ⟨0, [], 0⟩
/-- a tree's cells: its list of kids is v -/
def ncell (l : Bool) (t : Tok) (v : Value) : List Value := [.bool l, .int .i64 t.kind, str t.text, .int .i64 t.at_, v]

/-- these cells are this tree, whose blocks are among F -/
inductive Rep (F : List (Nat × Obj)) : List Value → Tr → Prop
  | nil (l : Bool) (t : Tok) : Rep F (ncell l t (.slice none 0 0)) (.mk l t [])
  | kids (l : Bool) (t : Tok) (g cap : Nat) (css : List (List Value)) (junk : List Value) (ks : List Tr) (hm : (g, row 76 (css.flatten ++ junk)) ∈ F) (hl : css.length = ks.length)
      (h5 : ∀ cs ∈ css, cs.length = 5) (hk : ∀ (i : Nat) cs k, css[i]? = some cs → ks[i]? = some k → Rep F cs k) : Rep F (ncell l t (.slice (some ⟨g, 0, none⟩) ks.length cap)) (.mk l t ks)

structure Reps (F : List (Nat × Obj)) (css : List (List Value)) (ks : List Tr) : Prop where
  len : css.length = ks.length
  five : ∀ cs ∈ css, cs.length = 5
  rep : ∀ (i : Nat) cs k, css[i]? = some cs → ks[i]? = some k → Rep F cs k
/-- a slice of trees -/
def RowR (F : List (Nat × Obj)) (v : Value) (ks : List Tr) : Prop :=
  (v = .slice none 0 0 ∧ ks = []) ∨ ∃ g cap css junk, v = .slice (some ⟨g, 0, none⟩) ks.length cap ∧ (g, row 76 (css.flatten ++ junk)) ∈ F ∧ Reps F css ks

theorem RowR.tree {F : List (Nat × Obj)} {v : Value} {ks : List Tr} (h : RowR F v ks) (l : Bool) (t : Tok) : Rep F (ncell l t v) (.mk l t ks) := by
  rcases h with ⟨rfl, rfl⟩ | ⟨g, cap, css, junk, rfl, hm, hr⟩
  · exact .nil l t
  · exact .kids l t g cap css junk ks hm hr.len hr.five hr.rep
theorem Rep.inv {F : List (Nat × Obj)} {cs : List Value} {l : Bool} {t : Tok} {ks : List Tr} (h : Rep F cs (.mk l t ks)) : ∃ v, cs = ncell l t v ∧ RowR F v ks := by
  cases h with
  | nil => exact ⟨_, rfl, .inl ⟨rfl, rfl⟩⟩
  | kids _ _ g cap css junk _ hm hl h5 hk => exact ⟨_, rfl, .inr ⟨g, cap, css, junk, rfl, hm, hl, h5, hk⟩⟩
theorem RowR.val {F : List (Nat × Obj)} {v : Value} {ks : List Tr} (h : RowR F v ks) : ∃ A c, v = .slice A ks.length c := by
  rcases h with ⟨rfl, rfl⟩ | ⟨g, cap, css, junk, rfl, _⟩
  · exact ⟨_, _, rfl⟩
  · exact ⟨_, _, rfl⟩
theorem RowR.one {F : List (Nat × Obj)} {v : Value} {ks : List Tr} (h : RowR F v ks) : v.oneCell' = true := by
  obtain ⟨A, c, rfl⟩ := h.val; rfl
theorem Rep.five {F : List (Nat × Obj)} {cs : List Value} {k : Tr} (h : Rep F cs k) : cs.length = 5 := by
  cases k; obtain ⟨v, rfl, _⟩ := h.inv; rfl
theorem ncell_one {l : Bool} {t : Tok} {v : Value} (h : v.oneCell' = true) : ∀ x ∈ ncell l t v, x.oneCell' = true := by
  intro x hx
  simp only [ncell, List.mem_cons, List.not_mem_nil, or_false] at hx
  rcases hx with rfl | rfl | rfl | rfl | rfl <;> first | rfl | exact h
theorem Rep.one {F : List (Nat × Obj)} {cs : List Value} {k : Tr} (h : Rep F cs k) : ∀ x ∈ cs, x.oneCell' = true := by
  cases k; obtain ⟨v, rfl, hr⟩ := h.inv; exact ncell_one hr.one
theorem Rep.mono {F F' : List (Nat × Obj)} (hF : ∀ p ∈ F, p ∈ F') {cs : List Value} {k : Tr} (h : Rep F cs k) : Rep F' cs k := by
  induction h with
  | nil l t => exact .nil l t
  | kids l t g cap css junk ks hm hl h5 hk ih => exact .kids l t g cap css junk ks (hF _ hm) hl h5 ih
theorem Reps.mono {F F' : List (Nat × Obj)} (hF : ∀ p ∈ F, p ∈ F') {css : List (List Value)} {ks : List Tr} (h : Reps F css ks) : Reps F' css ks := ⟨h.len, h.five, fun i cs k h1 h2 => (h.rep i cs k h1 h2).mono hF⟩
theorem RowR.mono {F F' : List (Nat × Obj)} (hF : ∀ p ∈ F, p ∈ F') {v : Value} {ks : List Tr} (h : RowR F v ks) : RowR F' v ks := by
  rcases h with h | ⟨g, cap, css, junk, h1, h2, h3⟩
  · exact .inl h
  · exact .inr ⟨g, cap, css, junk, h1, hF _ h2, h3.mono hF⟩
theorem Reps.nil (F : List (Nat × Obj)) : Reps F [] [] := ⟨rfl, by simp, by simp⟩
theorem Reps.snoc {F : List (Nat × Obj)} {css : List (List Value)} {ks : List Tr} (h : Reps F css ks) {cs : List Value} {k : Tr} (hk : Rep F cs k) : Reps F (css ++ [cs]) (ks ++ [k]) := by
  refine ⟨by simp [h.len], ?_, ?_⟩
  · intro x hx
    rcases List.mem_append.1 hx with hx | hx
    · exact h.five x hx
    · rw [List.mem_singleton.1 hx]; exact hk.five
  · intro i x y h1 h2
    have hl := h.len
    by_cases hi : i < css.length
    · rw [List.getElem?_append_left hi] at h1
      rw [List.getElem?_append_left (by omega)] at h2
      exact h.rep i x y h1 h2
    · rw [List.getElem?_append_right (by omega)] at h1
      rw [List.getElem?_append_right (by omega)] at h2
      have e : i - css.length = 0 := by
        have := (List.getElem?_eq_some_iff.1 h1).1
        simp at this; omega
      rw [e] at h1
      rw [show i - ks.length = 0 by omega] at h2
      cases h1; cases h2; exact hk
theorem Reps.app {F : List (Nat × Obj)} {css dss : List (List Value)} {ks js : List Tr} (h : Reps F css ks) (h2 : Reps F dss js) : Reps F (css ++ dss) (ks ++ js) := by
  have hl := h.len
  have hl2 := h2.len
  refine ⟨by simp [hl, hl2], ?_, ?_⟩
  · intro x hx
    rcases List.mem_append.1 hx with hx | hx
    · exact h.five x hx
    · exact h2.five x hx
  · intro i x y e1 e2
    by_cases hi : i < css.length
    · rw [List.getElem?_append_left hi] at e1
      rw [List.getElem?_append_left (by omega)] at e2
      exact h.rep i x y e1 e2
    · rw [List.getElem?_append_right (by omega)] at e1
      rw [List.getElem?_append_right (by omega)] at e2
      exact h2.rep (i - css.length) x y e1 (by rw [hl]; exact e2)
theorem Reps.flat {F : List (Nat × Obj)} {css : List (List Value)} {ks : List Tr} (h : Reps F css ks) : css.flatten.length = ks.length * 5 := by rw [flat_len h.five, h.len]
theorem Sl.rowr {F C : List (Nat × Obj)} {v : Value} {ks : List Tr} {css : List (List Value)} (h : Sl 76 5 v ks.length css.flatten C) (hr : Reps F css ks) (hC : ∀ p ∈ C, p ∈ F) : RowR F v ks := by
  rcases h.2 with ⟨rfl, h0, _⟩ | ⟨g, cap, junk, rfl, rfl, h1, h2, h3⟩
  · exact .inl ⟨rfl, List.eq_nil_of_length_eq_zero h0⟩
  · exact .inr ⟨g, cap, css, junk, rfl, hC _ (by simp), hr⟩

/-! ### what the reader does -/
abbrev Frm := Tok × List Tr
def goS : List Frm → List Tok → Except (Int × Int) (List Tr)
  | [], _ => .ok []
  | [(_, ks)], [] => .ok ks
  | (t, _) :: _ :: _, [] => .error (11, t.at_)
  | (t0, ks) :: rest, t :: ts =>
    if t.kind = 1 then (if rest.length = 1000 then .error (18, t.at_) else goS ((t, []) :: (t0, ks) :: rest) ts)
    else if t.kind = 2 then (match rest with
      | [] => .error (11, t.at_)
      | (t1, ks1) :: r => goS ((t1, ks1 ++ [.mk true t0 ks]) :: r) ts)
    else goS ((t0, ks ++ [.mk false t []]) :: rest) ts
def readS (ts : List Tok) : Except (Int × Int) (List Tr) := goS [(zTok, [])] ts

theorem goS_open {t0 : Tok} {ks : List Tr} {rest : List Frm} {t : Tok} {ts : List Tok} (h : t.kind = 1) : goS ((t0, ks) :: rest) (t :: ts) = if rest.length = 1000 then .error (18, t.at_) else goS ((t, []) :: (t0, ks) :: rest) ts := by
  rw [goS.eq_def]; simp only [h, if_true]
theorem goS_close0 {t0 : Tok} {ks : List Tr} {t : Tok} {ts : List Tok} (h : t.kind = 2) : goS [(t0, ks)] (t :: ts) = .error (11, t.at_) := by
  rw [goS.eq_def]; simp [h]
theorem goS_close {t0 t1 : Tok} {ks ks1 : List Tr} {r : List Frm} {t : Tok} {ts : List Tok} (h : t.kind = 2) : goS ((t0, ks) :: (t1, ks1) :: r) (t :: ts) = goS ((t1, ks1 ++ [.mk true t0 ks]) :: r) ts := by
  rw [goS.eq_def]; simp [h]
theorem goS_leaf {t0 : Tok} {ks : List Tr} {rest : List Frm} {t : Tok} {ts : List Tok} (h : t.kind ≠ 1) (h2 : t.kind ≠ 2) : goS ((t0, ks) :: rest) (t :: ts) = goS ((t0, ks ++ [.mk false t []]) :: rest) ts := by
  rw [goS.eq_def]; simp [h, h2]

/-- the document's way: the expressions up to a token that closes; what is left -/
def rl : Nat → Nat → List Tr → List Tok → Except (Int × Int) (List Tr × List Tok)
  | 0, _, out, ts => .ok (out, ts)
  | _ + 1, _, out, [] => .ok (out, [])
  | n + 1, deep, out, t :: ts =>
    if t.kind = 2 then .ok (out, t :: ts)
    else if t.kind = 1 then (if deep = 1000 then .error (18, t.at_) else match rl n (deep + 1) [] ts with
      | .error e => .error e
      | .ok (_, []) => .error (11, t.at_)
      | .ok (kids, _ :: r) => rl n deep (out ++ [.mk true t kids]) r)
    else rl n deep (out ++ [.mk false t []]) ts
theorem rl_left : ∀ (n deep : Nat) (out : List Tr) (ts : List Tok) (o : List Tr) (r : List Tok), rl n deep out ts = .ok (o, r) → r.length ≤ ts.length
  | 0, deep, out, ts, o, r, h => by cases h; exact Nat.le_refl _
  | n + 1, deep, out, [], o, r, h => by cases h; exact Nat.le_refl _
  | n + 1, deep, out, t :: ts, o, r, h => by
    unfold rl at h
    split at h
    · cases h; exact Nat.le_refl _
    · split at h
      · split at h
        · cases h
        · split at h
          · cases h
          · cases h
          · rename_i kids c r2 hr
            have h1 := rl_left n _ _ _ _ _ hr
            have h2 := rl_left n _ _ _ _ _ h
            simp at h1 ⊢; omega
      · have := rl_left n _ _ _ _ _ h
        simp; omega
/-- more fuel than tokens does no more -/
theorem rl_fuel : ∀ (n m deep : Nat) (out : List Tr) (ts : List Tok), ts.length < n → ts.length < m → rl n deep out ts = rl m deep out ts
  | 0, _, _, _, _, h, _ => by omega
  | _, 0, _, _, _, _, h => by omega
  | n + 1, m + 1, deep, out, [], _, _ => by simp [rl]
  | n + 1, m + 1, deep, out, t :: ts, h1, h2 => by
    simp only [List.length_cons] at h1 h2
    have e1 := rl_fuel n m (deep + 1) [] ts (by omega) (by omega)
    have e2 := rl_fuel n m deep (out ++ [.mk false t []]) ts (by omega) (by omega)
    unfold rl
    rw [e1, e2]
    cases hr : rl m (deep + 1) [] ts with
    | error e => rfl
    | ok x =>
      obtain ⟨kids, l⟩ := x
      cases l with
      | nil => rfl
      | cons c r =>
        have hle := rl_left _ _ _ _ _ _ hr
        simp only [List.length_cons] at hle
        have e3 := rl_fuel n m deep (out ++ [.mk true t kids]) r (by omega) (by omega)
        simp only [e3]
/-- what is left begins with a token that closes -/
theorem rl_close : ∀ (n deep : Nat) (out : List Tr) (ts : List Tok) (o : List Tr) (c : Tok) (r : List Tok), ts.length < n → rl n deep out ts = .ok (o, c :: r) → c.kind = 2
  | 0, _, _, _, _, _, _, h, _ => by omega
  | n + 1, deep, out, [], o, c, r, _, h => by cases h
  | n + 1, deep, out, t :: ts, o, c, r, hn, h => by
    simp only [List.length_cons] at hn
    unfold rl at h
    split at h
    · cases h; assumption
    · split at h
      · split at h
        · cases h
        · split at h
          · cases h
          · cases h
          · rename_i kids c2 r2 hr
            have h1 := rl_left n _ _ _ _ _ hr
            simp only [List.length_cons] at h1
            exact rl_close n _ _ _ _ _ _ (by omega) h
      · exact rl_close n _ _ _ _ _ _ (by omega) h
/-- the two ways are one -/
theorem goS_rl : ∀ (n : Nat) (t0 : Tok) (ks : List Tr) (rest : List Frm) (ts : List Tok), ts.length < n →
    goS ((t0, ks) :: rest) ts = match rl n rest.length ks ts with
      | .error e => .error e
      | .ok (ks', []) => goS ((t0, ks') :: rest) []
      | .ok (ks', c :: r) => goS ((t0, ks') :: rest) (c :: r)
  | 0, _, _, _, _, h => by omega
  | n + 1, t0, ks, rest, [], _ => by simp [rl]
  | n + 1, t0, ks, rest, t :: ts, h => by
    simp only [List.length_cons] at h
    unfold rl
    by_cases h2 : t.kind = 2
    · rw [if_pos h2]
    · rw [if_neg h2]
      by_cases h1 : t.kind = 1
      · rw [if_pos h1, goS_open h1]
        by_cases hd : rest.length = 1000
        · rw [if_pos hd, if_pos hd]
        · rw [if_neg hd, if_neg hd, goS_rl n t [] ((t0, ks) :: rest) ts (by omega)]
          rw [List.length_cons]
          cases hr : rl n (rest.length + 1) [] ts with
          | error e => rfl
          | ok x =>
            obtain ⟨kids, l⟩ := x
            cases l with
            | nil => simp [goS]
            | cons c r =>
              have hc := rl_close n _ _ _ _ _ _ (by omega) hr
              have hle := rl_left _ _ _ _ _ _ hr
              simp only [List.length_cons] at hle
              simp only
              rw [goS_close hc, goS_rl n t0 _ rest r (by omega)]
      · rw [if_neg h1, goS_leaf h1 h2, goS_rl n t0 _ rest ts (by omega)]

/-- the document's answer -/
def readR (ts : List Tok) : Except (Int × Int) (List Tr) := match rl (ts.length + 1) 0 [] ts with
  | .error e => .error e
  | .ok (o, []) => .ok o
  | .ok (_, c :: _) => .error (11, c.at_)
theorem read_same (ts : List Tok) : readS ts = readR ts := by
  unfold readS readR
  rw [goS_rl (ts.length + 1) zTok [] [] ts (by omega)]
  rw [List.length_nil]
  cases hr : rl (ts.length + 1) 0 [] ts with
  | error e => rfl
  | ok x =>
    obtain ⟨o, l⟩ := x
    cases l with
    | nil => simp [goS]
    | cons c r =>
      have hc := rl_close _ _ _ _ _ _ _ (by omega) hr
      simp only
      rw [goS_close0 hc]

/-- two rows, one behind the other -/
theorem goS_join : ∀ (a : List Tok) (S : List Frm) (x : List Tr) (b : List Tok), goS S a = .ok x → S ≠ [] → ∃ t0, goS S (a ++ b) = goS [(t0, x)] b
  | [], [], x, b, h, hS => absurd rfl hS
  | [], [(t0, ks)], x, b, h, _ => by
    simp only [goS] at h; cases h; exact ⟨t0, rfl⟩
  | [], (t, _) :: _ :: _, x, b, h, _ => by simp [goS] at h
  | t :: ts, [], x, b, h, hS => absurd rfl hS
  | t :: ts, (t0, ks) :: rest, x, b, h, _ => by
    rw [List.cons_append]
    by_cases h1 : t.kind = 1
    · rw [goS_open h1] at h ⊢
      split at h
      · cases h
      · rename_i hd
        rw [if_neg hd]
        exact goS_join ts _ x b h (by simp)
    · by_cases h2 : t.kind = 2
      · cases rest with
        | nil => rw [goS_close0 h2] at h; cases h
        | cons f r =>
          obtain ⟨t1, k1⟩ := f
          rw [goS_close h2] at h ⊢
          exact goS_join ts _ x b h (by simp)
      · rw [goS_leaf h1 h2] at h ⊢
        exact goS_join ts _ x b h (by simp)
theorem goS_more : ∀ (b : List Tok) (S : List Frm) (t0 : Tok) (ks : List Tr) (u0 : Tok) (x : List Tr) (y : List Tr), goS (S ++ [(t0, ks)]) b = .ok y → goS (S ++ [(u0, x ++ ks)]) b = .ok (x ++ y)
  | [], [], t0, ks, u0, x, y, h => by simp only [List.nil_append, goS] at h ⊢; cases h; rfl
  | [], [_], t0, ks, u0, x, y, h => by simp [goS] at h
  | [], _ :: _ :: _, t0, ks, u0, x, y, h => by simp [goS] at h
  | t :: ts, [], t0, ks, u0, x, y, h => by
    simp only [List.nil_append] at h ⊢
    by_cases h1 : t.kind = 1
    · rw [goS_open h1] at h ⊢
      simp only [List.length_nil] at h ⊢
      rw [if_neg (by decide)] at h ⊢
      exact goS_more ts [(t, [])] t0 ks u0 x y h
    · by_cases h2 : t.kind = 2
      · rw [goS_close0 h2] at h; cases h
      · rw [goS_leaf h1 h2] at h ⊢
        rw [List.append_assoc]
        exact goS_more ts [] t0 _ u0 x y h
  | t :: ts, (t1, k1) :: r, t0, ks, u0, x, y, h => by
    simp only [List.cons_append] at h ⊢
    by_cases h1 : t.kind = 1
    · rw [goS_open h1] at h ⊢
      have e : (r ++ [(u0, x ++ ks)]).length = (r ++ [(t0, ks)]).length := by simp
      rw [e]
      split at h
      · cases h
      · rename_i hd
        rw [if_neg hd]
        exact goS_more ts ((t, []) :: (t1, k1) :: r) t0 ks u0 x y h
    · by_cases h2 : t.kind = 2
      · cases r with
        | nil =>
          simp only [List.nil_append] at h ⊢
          rw [goS_close h2] at h ⊢
          rw [List.append_assoc]
          exact goS_more ts [] t0 _ u0 x y h
        | cons f r =>
          obtain ⟨t2, k2⟩ := f
          simp only [List.cons_append] at h ⊢
          rw [goS_close h2] at h ⊢
          exact goS_more ts ((t2, k2 ++ [Tr.mk true t1 k1]) :: r) t0 ks u0 x y h
      · rw [goS_leaf h1 h2] at h ⊢
        exact goS_more ts ((t1, k1 ++ [Tr.mk false t []]) :: r) t0 ks u0 x y h
theorem sread_join {a b : List Tok} {x y : List Tr} (ha : readS a = .ok x) (hb : readS b = .ok y) : readS (a ++ b) = .ok (x ++ y) := by
  obtain ⟨u0, hu⟩ := goS_join a _ x b ha (by simp)
  have h2 := goS_more b [] zTok [] u0 x y hb
  unfold readS
  rw [hu]
  simpa using h2
end Go.Proofs.Ytclingkhdmhhoaa

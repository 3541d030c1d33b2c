/- Chapter 8: the walk of the document's Read. No condition. -/
import Derived.Test.YtclingkhdmhhoaaSxD
namespace Go.Proofs.Ytclingkhdmhhoaa
open Go.RowKit
set_option linter.unusedSimpArgs false
set_option linter.unusedVariables false

def RPost (w0 : World) (r : Except (Int × Int) (List Tr)) (e : Ending) (w' : World) : Prop := match r with
  | .ok ks => ∃ (v : Value) (F : List (Nat × Obj)), e = .returned (.tuple #[v, .int .i64 0, .int .i64 0]) ∧ Hid (RowR F v ks) ∧ St w0 [] F w'
  | .error x => e = .returned (.tuple #[.slice none 0 0, .int .i64 x.1, .int .i64 x.2]) ∧ St w0 [] [] w'
theorem results33 {w : World} {v4 v5 v6 : Value} {tmps : Array Value} (t4 : tmps.getD 2 undef = v4) (t5 : tmps.getD 3 undef = v5) (t6 : tmps.getD 4 undef = v6) :
    (results Try.f33 tmps).run Try.prog w = .ok (.tuple #[v4, v5, v6]) w := by
  rw [Array.getD_eq_getD_getElem?] at t4 t5 t6
  simp [results, Try.f33, t4, t5, t6]
set_option maxHeartbeats 2000000 in
set_option maxRecDepth 4000 in
theorem rread8_any {w0 : World} {tv : Value} {ts : List Tok} (hT : Tks w0 tv ts) (hl : ts.length ≤ 8192) : Calls Try.prog 33 #[tv] w0 (RPost w0 (readR ts)) := by
  have hcall := rlist_any (ts.length + 1) (i := 0) (deep := 0) hT hl (Nat.zero_le _) (by omega) (by decide)
  have hsuf := rl_suffix (ts.length + 1) 0 [] ts
  have hlef := rl_left (ts.length + 1) 0 [] ts
  have hcod := rl_code (ts.length + 1) 0 [] ts
  rw [List.drop_zero] at hcall
  have hs := St.nothing w0
  unfold readR
  generalize rl (ts.length + 1) 0 [] ts = R1 at *
  obtain ⟨A, c, rfl⟩ : ∃ A c, tv = .slice A ts.length c := by obtain ⟨A, c, h, _⟩ := hT; exact ⟨A, c, h⟩
  replace hT := hid hT
  replace hcall := hid hcall
  cases R1 with
  | error x =>
    have qx : (x.1 != (0 : Int)) = true := by have := hcod x rfl; simp [this]
    clear hsuf hlef hcod
    go_enter Try.func33, Try.ntmps33
    go_wp2_with (go_at_call 57; refine (hcall.out).mono ?_; rintro e w ⟨rfl, hs'⟩; replace hs := hs.plus hs'; clear hs')
    refine bodyPost_ret (results33 rfl rfl rfl) rfl ?_
    exact ⟨rfl, hs⟩
  | ok x =>
    obtain ⟨kids, rs⟩ := x
    have hlr := hlef kids rs rfl
    have hsu := hsuf kids rs rfl
    clear hsuf hlef hcod
    cases rs with
    | nil =>
      have qe : decide (ts.length < ts.length) = false := by simp
      clear hsu hlr
      go_enter Try.func33, Try.ntmps33
      go_wp2_with (go_at_call 57; refine (hcall.out).mono ?_; rintro e w ⟨kv, F1, en, rfl, hen, hkr, hs'⟩; obtain rfl : en = ts.length := hen.out; replace hs := hs.plus hs'; clear hs')
      refine bodyPost_ret (results33 rfl rfl rfl) rfl ?_
      exact ⟨_, _, rfl, hkr, hs⟩
    | cons cl r' =>
      simp only [List.length_cons] at hlr
      obtain ⟨en0, hen0⟩ : ∃ en0, ts.length - (r'.length + 1) = en0 := ⟨_, rfl⟩
      have hlt : en0 < ts.length := by omega
      have ht : ts[en0]? = some cl := by
        have e := congrArg (fun l : List Tok => l[0]?) hsu
        simp only [List.length_cons, List.getElem?_drop, Nat.add_zero, hen0] at e
        simpa using e.symm
      obtain ⟨b, o, rfl, hct⟩ := hT.out.at ht
      have c2 : w0.cell? ⟨b, o + en0 * 3 + 2, none⟩ = some (.int .i64 cl.at_) := hct 2 _ rfl
      have qe : decide (en0 < ts.length) = true := by simpa using hlt
      replace c2 := hid c2
      replace hen0 := hid hen0
      clear hsu hlr hct
      replace ht := hid ht
      go_enter Try.func33, Try.ntmps33
      go_wp2_with (go_at_call 57; refine (hcall.out).mono ?_; rintro e w ⟨kv, F1, en, rfl, hen, hkr, hs'⟩; obtain rfl : en = en0 := hen.out.trans hen0.out; replace hs := hs.plus hs'; clear hs')
      refine wp_region_phases [] (wsOf [World.drew _]) follows (by kernel_rfl) (by kernel_rfl) rfl ?_
      refine LinP.pure rfl rfl (ex_move (ev rfl)) (pu rfl (by simp only [List.set_cons_succ, List.set_cons_zero]; rfl)) ?_
      refine LinP.pure rfl rfl (ex_move (ev rfl)) (pu rfl (by simp only [List.set_cons_succ, List.set_cons_zero]; rfl)) ?_
      refine LinP.pure rfl rfl (ex_indexAddr st44 (ev rfl) (ev rfl) hlt) (pu rfl (by simp only [List.set_cons_succ, List.set_cons_zero]; rfl)) ?_
      refine LinP.pure rfl rfl (ex_fieldAddr fa54_2 (ev rfl)) (pu rfl (by simp only [List.set_cons_succ, List.set_cons_zero]; rfl)) ?_
      refine LinP.rd 0 rfl rfl (by kernel_rfl) (by kernel_rfl) (ex_ld_s (ev rfl) (sc_of rfl) (hs.drew.out c2.out)) (pu rfl (by simp only [List.set_cons_succ, List.set_cons_zero]; rfl)) ?_
      refine LinP.pure rfl rfl (ex_assign evc) (pu rfl (by simp only [List.set_cons_succ, List.set_cons_zero]; rfl)) ?_
      refine LinP.pure rfl rfl (ex_assign evc) (pu rfl (by simp only [List.set_cons_succ, List.set_cons_zero]; rfl)) ?_
      refine LinP.pure rfl rfl (ex_assign (ev rfl)) (pu rfl (by simp only [List.set_cons_succ, List.set_cons_zero]; rfl)) ?_
      refine LinP.done ?_
      go_wp2_with fail
      refine bodyPost_ret (results33 rfl rfl rfl) rfl ?_
      exact ⟨rfl, hs.drew.void⟩
end Go.Proofs.Ytclingkhdmhhoaa

import Derived.Test.YtgabpbnndikheaaDoorGq
set_option linter.constructorNameAsVariable false
/-! Features: parts. -/
namespace Go.Proofs.YtgabpbnndikheaaDoor
open Go.RowKit Go.Proofs.YtgabpbnndikheaaDoorW.PrintWords

theorem rg_get {a : List (List Pt)} {i : Nat} (hi : i < a.length) : rg a i = a[i] := by unfold rg; rw [List.getD_eq_getElem?_getD, List.getElem?_eq_getElem hi]; rfl
set_option maxHeartbeats 1000000 in
set_option maxRecDepth 100000 in
theorem idxA_any (f : List Pt → Bool) (k : FuncId) (l : List (List Pt)) (A : Option Addr) (c : Nat) (w : World) (h : RdA w A l)
    (hk : ∀ args W, (callFunc k args).run Tryd.prog W = .ok (.enter k args) W)
    (hf : ∀ r A' c' W, Calls Tryd.prog k #[.slice A' (List.length r) c'] W fun e w' => e = .returned (.bool (f r)) ∧ Below W.heap.size W w') :
    Calls Tryd.prog 84 #[.slice A l.length c, .func (.func k) #[] #[]] w fun e w' => e = .returned (.int .i64 (idxI f l)) ∧ Below w.heap.size w w' := by
  have hbig := h.2.1
  have HR := Aside0.mk h
  have HF := Aside0.mk hf
  clear h hf
  obtain ⟨R, hR⟩ : ∃ R, R = idxI f l := ⟨_, rfl⟩
  rw [← hR]
  have HD := Aside0.mk hR
  clear hR
  go_enter Tryd.func84, Tryd.ntmps84
  go_wp2
  go_loopw [8] (fun u wr => ∃ i : Nat, u = .int .i64 i ∧ i ≤ l.length ∧ Aside0 (∀ x ∈ l.take i, f x = false) ∧ Aside0 (Below w.heap.size w wr)) (fun u _ => l.length - (intOf u).toNat)
  case atStart => exact ⟨0, rfl, Nat.zero_le _, ⟨by simp⟩, ⟨Below.refl _ _⟩⟩
  case round =>
    obtain ⟨i, rfl, hi0, HN, HB⟩ := hrel
    by_cases hi : i < l.length
    · have hd : decide ((i : Int) < (l.length : Int)) = true := by simp; omega
      have hdd : ¬ l.length ≤ i := by omega
      obtain ⟨ad, A', c', rfl, k5, -, -⟩ := (HR.out.keep HB.out).rg hi
      have hcall := HF.out (rg l i) A' c' wr
      have HS := Aside0.mk (fun h => idxI_some (f := f) hi HN.out h)
      have HT := Aside0.mk (fun h => take_next (P := fun x => f x = false) hi HN.out h)
      rw [← rg_get hi] at HS HT
      generalize f (rg l i) = b at hcall HS HT
      have HC := Aside0.mk hcall
      clear hcall
      cases b
      · go_wp2_with ((with_reducible refine HC.out.mono ?_); rintro e w1 ⟨rfl, hB⟩; have HB1 := Aside0.mk (below_call HB.out hB); clear hB)
        go_roundw
        case rel => exact ⟨i + 1, rfl, by omega, ⟨HT.out (by first | rfl | trivial)⟩, HB1⟩
        case measure => simp only [intOf]; omega
      · go_wp2_with ((with_reducible refine HC.out.mono ?_); rintro e w1 ⟨rfl, hB⟩; have HB1 := Aside0.mk (below_call HB.out hB); clear hB)
        go_ret
        exact ⟨i64_ret (by rw [HD.out, HS.out (by first | rfl | trivial)]), HB1.out⟩
    · have hd : decide ((i : Int) < (l.length : Int)) = false := by simp; omega
      go_wp2
      go_ret
      refine ⟨i64_ret ?_, HB.out⟩
      rw [HD.out, idxI_none (fun x hx => HN.out x (by rw [List.take_of_length_le (by omega)]; exact hx))]
set_option maxRecDepth 100000 in
theorem hasA_any (f : List Pt → Bool) (k : FuncId) (l : List (List Pt)) (A : Option Addr) (c : Nat) (w : World) (h : RdA w A l)
    (hk : ∀ args W, (callFunc k args).run Tryd.prog W = .ok (.enter k args) W)
    (hf : ∀ r A' c' W, Calls Tryd.prog k #[.slice A' (List.length r) c'] W fun e w' => e = .returned (.bool (f r)) ∧ Below W.heap.size W w') :
    Calls Tryd.prog 47 #[.slice A l.length c, .func (.func k) #[] #[]] w fun e w' => e = .returned (.bool (l.any f)) ∧ Below w.heap.size w w' := by
  have hcall := idxA_any f k l A c w h hk hf
  have hb := idxI_any f l
  generalize idxI f l = n at *
  generalize l.any f = b at *
  have HC := Aside0.mk hcall
  clear h hf hk hcall
  go_enter Tryd.func47, Tryd.ntmps47
  go_wp2_with (refine HC.out.mono ?_; rintro e w1 ⟨rfl, hB⟩; have HB1 := Aside0.mk hB; clear hB)
  go_ret
  exact ⟨bool_ret (by rw [← hb]), HB1.out⟩
set_option maxRecDepth 100000 in
theorem long_any (r : List Pt) (A : Option Addr) (c : Nat) (w : World) :
    Calls Tryd.prog 48 #[.slice A r.length c] w fun e w' => e = .returned (.bool (decide (200 < r.length))) ∧ Below w.heap.size w w' := by
  have hd : decide ((200 : Int) < (r.length : Int)) = decide (200 < r.length) := by rw [decide_eq_decide]; omega
  generalize decide (200 < r.length) = b at *
  go_enter Tryd.func48, Tryd.ntmps48
  go_wp2
  go_ret
  exact ⟨rfl, Below.refl _ _⟩

/-- The first error of the parts' points. -/
def partsUpto (kind : Int) (a : List (List Pt)) : Nat → Int
  | 0 => 0
  | n + 1 => if partsUpto kind a n = 0 then pointsErr kind (rg a n) else partsUpto kind a n
theorem partsUpto_stay {kind : Int} {a : List (List Pt)} {i n : Nat} (hi : i < n) (h : partsUpto kind a i = 0) (h2 : pointsErr kind (rg a i) ≠ 0) : partsUpto kind a n = pointsErr kind (rg a i) := by
  induction n with
  | zero => omega
  | succ n ih =>
    by_cases hin : i = n
    · subst hin
      rw [partsUpto, if_pos h]
    · have := ih (by omega)
      rw [partsUpto, if_neg (by rw [this]; exact h2), this]
def partsErr (kind : Int) (a : List (List Pt)) : Int := if kind < 1 ∨ 3 < kind then 8 else if 20 < a.length ∨ (a.any fun r => decide (200 < r.length)) = true then 2 else if a.length = 0 then 4 else
  if partsUpto kind a a.length = 0 then (if kind = 3 then areaErr a else 0) else partsUpto kind a a.length
set_option maxHeartbeats 4000000 in
set_option maxRecDepth 100000 in
theorem parts_any (kind : Int) (a : List (List Pt)) (A : Option Addr) (c : Nat) (w : World) (h : RdA w A a) (hc : a.length ≤ c) :
    Calls Tryd.prog 20 #[.int .i64 kind, .slice A a.length c] w fun e w' => e = .returned (.int .i64 (partsErr kind a)) ∧ Below w.heap.size w w' := by
  obtain ⟨R, hR⟩ : ∃ R, R = partsErr kind a := ⟨_, rfl⟩
  rw [← hR]
  unfold partsErr at hR
  have c1 := fun W (hb : Below w.heap.size w W) => hasA_any (fun r => decide (200 < r.length)) 48 a A c W (h.keep hb) (fun _ _ => by go_simp) (fun r A' c' W' => long_any r A' c' W')
  have hany : ∀ r, r ∈ a → (a.any fun r => decide (200 < r.length)) = false → r.length ≤ 200 := fun r hr he => by
    rw [List.any_eq_false] at he
    have := he r hr
    simp at this
    omega
  have HR := Aside0.mk h
  have hbig := h.2.1
  clear h
  by_cases h1 : kind < 1
  · rw [if_pos (.inl h1)] at hR
    have d1 : decide (kind < 1) = true := by simp; omega
    subst hR
    clear c1 hany
    go_enter Tryd.func20, Tryd.ntmps20
    go_wp2
    go_ret
    exact ⟨rfl, Below.refl _ _⟩
  have d1 : decide (kind < 1) = false := by simp; omega
  by_cases h2 : 3 < kind
  · rw [if_pos (.inr h2)] at hR
    have d2 : decide (3 < kind) = true := by simp; omega
    subst hR
    clear c1 hany
    go_enter Tryd.func20, Tryd.ntmps20
    go_wp2
    go_ret
    exact ⟨rfl, Below.refl _ _⟩
  have d2 : decide (3 < kind) = false := by simp; omega
  rw [if_neg (by omega)] at hR
  by_cases h3 : 20 < a.length
  · rw [if_pos (.inl h3)] at hR
    have d3 : decide ((20 : Int) < (a.length : Int)) = true := by simp; omega
    subst hR
    clear c1 hany
    go_enter Tryd.func20, Tryd.ntmps20
    go_wp2
    go_ret
    exact ⟨rfl, Below.refl _ _⟩
  have d3 : decide ((20 : Int) < (a.length : Int)) = false := by simp; omega
  have HA := Aside0.mk hany
  generalize (a.any fun r => decide (200 < r.length)) = b at *
  have C1 := Aside0.mk c1
  clear c1 hany
  cases b
  rotate_left
  · rw [if_pos (.inr rfl)] at hR
    subst hR
    go_enter Tryd.func20, Tryd.ntmps20
    go_wp2_with (go_at_call 47; refine (C1.out _ (Below.refl _ _)).mono ?_; rintro e w1 ⟨rfl, hB⟩; have HB := Aside0.mk hB; clear hB)
    go_ret
    exact ⟨rfl, HB.out⟩
  rw [if_neg (by simp; omega)] at hR
  by_cases h4 : a.length = 0
  · rw [if_pos h4] at hR
    subst hR
    have h5 : a = [] := List.length_eq_zero_iff.1 h4
    subst h5
    clear h4 d3 hbig h3 hc HA HR
    simp only [List.length_nil] at C1 ⊢
    go_enter Tryd.func20, Tryd.ntmps20
    go_wp2_with (go_at_call 47; refine (C1.out _ (Below.refl _ _)).mono ?_; rintro e w1 ⟨rfl, hB⟩; have HB := Aside0.mk hB; clear hB)
    go_ret
    exact ⟨rfl, HB.out⟩
  have d4 : ((a.length : Int) == 0) = false := by simpa using h4
  rw [if_neg h4] at hR
  have HD := Aside0.mk hR
  clear hR
  have h4' : a ≠ [] := by intro e; subst e; simp at h4
  go_enter Tryd.func20, Tryd.ntmps20
  go_wp2_with (go_at_call 47; refine (C1.out _ (Below.refl _ _)).mono ?_; rintro e w1 ⟨rfl, hB⟩; have HB := Aside0.mk hB; clear hB)
  go_loopw [26] (fun u wr => ∃ i : Nat, u = .int .i64 i ∧ i ≤ a.length ∧ Aside0 (partsUpto kind a i = 0) ∧ Aside0 (Below w.heap.size w wr)) (fun u _ => a.length - (intOf u).toNat)
  case atStart => exact ⟨0, rfl, Nat.zero_le _, ⟨rfl⟩, HB⟩
  case round =>
    obtain ⟨i, rfl, hi0, HN, HB1⟩ := hrel
    by_cases hi : i < a.length
    · have hd : decide ((i : Int) < (a.length : Int)) = true := by simp; omega
      have hd' : ¬ a.length ≤ i := by omega
      obtain ⟨ad, A', c', rfl, k1, hl', hrd⟩ := (HR.out.keep HB1.out).rg hi
      have HC := Aside0.mk (points_any kind (rg a i) A' c' wr hrd (HA.out _ (by rw [rg_get hi]; exact List.getElem_mem hi) (by first | rfl | trivial)))
      have HE := Aside0.mk (fun e : pointsErr kind (rg a i) ≠ 0 => partsUpto_stay hi HN.out e)
      have HT := Aside0.mk (fun e : pointsErr kind (rg a i) = 0 => (by rw [partsUpto, if_pos HN.out]; exact e : partsUpto kind a (i + 1) = 0))
      generalize pointsErr kind (rg a i) = m at *
      clear hrd
      by_cases hm : m = 0
      · subst hm
        go_wp2_with (go_at_call 49; (with_reducible refine HC.out.mono ?_); rintro e w2 ⟨rfl, hB⟩; have HB2 := Aside0.mk (below_call HB1.out hB); clear hB)
        go_roundw
        case rel => exact ⟨i + 1, rfl, by omega, ⟨HT.out (by first | rfl | trivial)⟩, HB2⟩
        case measure => simp only [intOf]; omega
      · have hmb : (m == 0) = false := by simpa using hm
        have hmb2 : (m != 0) = true := by simpa using hm
        go_wp2_with (go_at_call 49; (with_reducible refine HC.out.mono ?_); rintro e w2 ⟨rfl, hB⟩; have HB2 := Aside0.mk (below_call HB1.out hB); clear hB)
        go_ret
        refine ⟨i64_ret ?_, HB2.out⟩
        rw [HD.out, HE.out hm, if_neg hm]
    · have hd : decide ((i : Int) < (a.length : Int)) = false := by simp; omega
      have hP : partsUpto kind a a.length = 0 := by rw [show a.length = i by omega]; exact HN.out
      rw [hP, if_pos rfl] at HD
      by_cases h7 : kind = 3
      · subst h7
        rw [if_pos rfl] at HD
        have HC := Aside0.mk (area_any a A c wr (HR.out.keep HB1.out) hc)
        generalize areaErr a = m at *
        go_wp2_with (go_at_call 50; (with_reducible refine HC.out.mono ?_); rintro e w2 ⟨rfl, hB⟩; have HB2 := Aside0.mk (below_call HB1.out hB); clear hB)
        go_ret
        exact ⟨i64_ret HD.out.symm, HB2.out⟩
      · rw [if_neg h7] at HD
        have e7 : (kind == 3) = false := by simpa using h7
        go_wp2
        go_ret
        exact ⟨i64_ret HD.out.symm, HB1.out⟩
end Go.Proofs.YtgabpbnndikheaaDoor

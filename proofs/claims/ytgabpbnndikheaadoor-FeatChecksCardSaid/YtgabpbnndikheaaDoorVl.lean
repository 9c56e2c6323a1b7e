import Derived.Test.YtgabpbnndikheaaDoorVk
import Derived.Lib.ConvBytes
set_option linter.constructorNameAsVariable false
/-! The reference's ValueErr. -/
namespace Go.Proofs.YtgabpbnndikheaaDoor
open Go.RowKit Go.Proofs.YtgabpbnndikheaaDoorW.PrintWords

def keepVal (v : Val) : Val := if v.kind = 0 then vNil else if v.kind = 1 then vNum v.n else if v.kind = 2 then vText v.s else vBool v.b
theorem size0 (s : ByteArray) : s = ⟨#[]⟩ ↔ s.size = 0 := by
  constructor
  · rintro rfl; rfl
  · intro h
    refine arr_ext ?_
    have : s.data.toList.length = 0 := by rw [Array.length_toList]; exact h
    rw [List.length_eq_zero_iff.1 this]
theorem checkVal_form (v : Val) (h0 : 0 ≤ v.kind) (h3 : v.kind ≤ 3) : checkVal v = if sameB (keepVal v) v = false then 3 else if v.n < -1000000000000 ∨ 1000000000000 < v.n ∨ 40 < v.s.size then 2 else if plainB v.s.data.toList = true then 0 else 3 := by
  obtain ⟨k, n, s, b⟩ := v
  simp only at h0 h3 ⊢
  have hb : (sameB (keepVal ⟨k, n, s, b⟩) ⟨k, n, s, b⟩ = false) ↔ ((k ≠ 1 ∧ n ≠ 0) ∨ (k ≠ 2 ∧ s.size ≠ 0) ∨ (k ≠ 3 ∧ b = true)) := by
    rw [← Bool.not_eq_true, sameB_iff]
    have hk : k = 0 ∨ k = 1 ∨ k = 2 ∨ k = 3 := by omega
    have hs := size0 s
    rcases hk with rfl | rfl | rfl | rfl <;> simp [keepVal, vNil, vNum, vText, vBool, eq_comm (a := (⟨#[]⟩ : ByteArray)), hs, eq_comm (a := (0 : Int)), eq_comm (a := false)] <;> cases b <;> (try simp) <;> (try omega) <;> by_cases hn : n = 0 <;> by_cases he : s = ByteArray.empty <;> simp_all
  unfold checkVal
  simp only
  rw [if_neg (by omega)]
  by_cases hc : (k ≠ 1 ∧ n ≠ 0) ∨ (k ≠ 2 ∧ s.size ≠ 0) ∨ (k ≠ 3 ∧ b = true)
  · rw [if_pos hc, if_pos (hb.2 hc)]
  · rw [if_neg hc, if_neg (fun h => hc (hb.1 h))]
set_option maxRecDepth 100000 in
theorem verr_bad (v : Val) (w : World) (hk : v.kind < 0 ∨ 3 < v.kind) :
    Calls Tryd.prog 29 #[v.v] w fun e w' => e = .returned (.int .i64 (checkVal v)) ∧ Below w.heap.size w w' := by
  have hc : checkVal v = 8 := by unfold checkVal; rw [if_pos hk]
  rw [hc]
  obtain ⟨k, n, s, b⟩ := v
  simp only at hk
  unfold Val.v
  have h : decide (k < 0) = true ∨ (decide (k < 0) = false ∧ decide (3 < k) = true) := by simp; omega
  rcases h with h1 | ⟨h1, h2⟩
  all_goals
    go_enter Tryd.func29, Tryd.ntmps29
    go_wp2
    go_ret
    exact ⟨rfl, below_alloc' (Below.refl _ _) _⟩

set_option maxHeartbeats 8000000 in
set_option maxRecDepth 100000 in
theorem verr_large (v : Val) (w : World) (hk : v.kind = 0 ∨ v.kind = 1 ∨ v.kind = 2 ∨ v.kind = 3) (hl : sameB (keepVal v) v = false ∨ (decide (1000000000000 < v.n) = true ∨ decide (1000000000000 < v.n) = false ∧ (decide (v.n < -1000000000000) = true ∨ decide (v.n < -1000000000000) = false ∧ decide ((40 : Int) < v.s.size) = true))) :
    Calls Tryd.prog 29 #[v.v] w fun e w' => e = .returned (.int .i64 (checkVal v)) ∧ Below w.heap.size w w' := by
  rw [checkVal_form v (by omega) (by omega)]
  have q := fun W => val_neq (keepVal v) v W
  generalize hQ : sameB (keepVal v) v = Q at *
  obtain ⟨k, n, s, b⟩ := v
  simp only at hk hl ⊢
  unfold Val.v
  cases Q
  · rw [if_pos rfl]
    rcases hk with rfl | rfl | rfl | rfl
    all_goals
      simp only [keepVal, vNil, vNum, vText, vBool, if_true, if_false, Int.reduceEq, Bool.not_false] at q
      go_enter Tryd.func29, Tryd.ntmps29
      go_wp2
      go_ret
      exact ⟨rfl, below_alloc' (below_alloc' (below_alloc' (Below.refl _ _) _) _) _⟩
  · rw [if_neg (by simp)]
    replace hl := hl.resolve_left (by simp)
    rw [if_pos (by simp only [decide_eq_true_eq, decide_eq_false_iff_not] at hl ⊢; omega)]
    rcases hk with rfl | rfl | rfl | rfl
    all_goals
      simp only [keepVal, vNil, vNum, vText, vBool, if_true, if_false, Int.reduceEq, Bool.not_true] at q
      rcases hl with h1 | ⟨h1, h2 | ⟨h2, h3⟩⟩
      all_goals
        go_enter Tryd.func29, Tryd.ntmps29
        go_wp2
        go_ret
        exact ⟨rfl, below_alloc' (below_alloc' (below_alloc' (Below.refl _ _) _) _) _⟩
end Go.Proofs.YtgabpbnndikheaaDoor

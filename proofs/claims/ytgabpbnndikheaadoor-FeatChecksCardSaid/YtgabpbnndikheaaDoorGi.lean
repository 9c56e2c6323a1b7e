import Derived.Test.YtgabpbnndikheaaDoorGh
set_option linter.constructorNameAsVariable false
/-! Does a row of points hold one of a kind? -/
namespace Go.Proofs.YtgabpbnndikheaaDoor
open Go.RowKit Go.Proofs.YtgabpbnndikheaaDoorW.PrintWords

def idxI {α : Type} (f : α → Bool) (l : List α) : Int := match l.findIdx? f with | some i => (i : Int) | none => -1
theorem idxI_some {α : Type} {f : α → Bool} {l : List α} {i : Nat} (hi : i < l.length) (h : ∀ x ∈ l.take i, f x = false) (hx : f l[i] = true) : idxI f l = (i : Int) := by
  have : l.findIdx? f = some i := by
    rw [List.findIdx?_eq_some_iff_getElem]
    refine ⟨hi, hx, fun j hj => ?_⟩
    have hm : l[j]'(by omega) ∈ l.take i := by
      rw [List.mem_take_iff_getElem]
      exact ⟨j, by omega, rfl⟩
    simp [h _ hm]
  unfold idxI
  rw [this]
theorem idxI_none {α : Type} {f : α → Bool} {l : List α} (h : ∀ x ∈ l, f x = false) : idxI f l = -1 := by
  have : l.findIdx? f = none := by rw [List.findIdx?_eq_none_iff]; exact h
  unfold idxI
  rw [this]
theorem idxI_any {α : Type} (f : α → Bool) (l : List α) : decide (0 ≤ idxI f l) = l.any f := by
  unfold idxI
  cases h : l.findIdx? f with
  | none =>
    rw [List.findIdx?_eq_none_iff] at h
    simp only
    rw [List.any_eq_false.2 (fun x hx => by simp [h x hx])]
    decide
  | some i =>
    rw [List.findIdx?_eq_some_iff_getElem] at h
    obtain ⟨hi, hx, _⟩ := h
    simp only
    rw [List.any_eq_true.2 ⟨_, List.getElem_mem hi, hx⟩]
    simp
set_option maxHeartbeats 1000000 in
set_option maxRecDepth 100000 in
theorem idxP_any (f : Pt → Bool) (k : FuncId) (l : List Pt) (A : Option Addr) (c : Nat) (w : World) (h : RdP w A l) (hl : l.length ≤ 140737488355328)
    (hk : ∀ args W, (callFunc k args).run Tryd.prog W = .ok (.enter k args) W)
    (hf : ∀ p ∈ l, ∀ W, Below w.heap.size w W → Calls Tryd.prog k #[p.v] W fun e w' => e = .returned (.bool (f p)) ∧ Below W.heap.size W w') :
    Calls Tryd.prog 109 #[.slice A l.length c, .func (.func k) #[] #[]] w fun e w' => e = .returned (.int .i64 (idxI f l)) ∧ Below w.heap.size w w' := by
  have HR := Aside0.mk h
  have HF := Aside0.mk hf
  clear h hf
  obtain ⟨R, hR⟩ : ∃ R, R = idxI f l := ⟨_, rfl⟩
  rw [← hR]
  have HD := Aside0.mk hR
  clear hR
  go_enter Tryd.func109, Tryd.ntmps109
  go_wp2
  go_loopw [8] (fun u wr => ∃ i : Nat, u = .int .i64 i ∧ i ≤ l.length ∧ Aside0 (∀ x ∈ l.take i, f x = false) ∧ Aside0 (Below w.heap.size w wr)) (fun u _ => l.length - (intOf u).toNat)
  case atStart => exact ⟨0, rfl, Nat.zero_le _, ⟨by simp⟩, ⟨Below.refl _ _⟩⟩
  case round =>
    obtain ⟨i, rfl, hi0, HN, HB⟩ := hrel
    by_cases hi : i < l.length
    · have hd : decide ((i : Int) < (l.length : Int)) = true := by simp; omega
      have hdd : ¬ l.length ≤ i := by omega
      obtain ⟨ad, rfl, k5, k6⟩ := (HR.out.keep HB.out).at_ hi
      have hcall := HF.out l[i] (List.getElem_mem hi) wr HB.out
      have HS := Aside0.mk (fun h => idxI_some hi HN.out h)
      have HT := Aside0.mk (fun h => take_next (P := fun x => f x = false) hi HN.out h)
      generalize l[i] = x at k5 k6 hcall HS HT
      generalize f x = b at hcall HS HT
      have HC := Aside0.mk hcall
      clear hcall
      obtain ⟨ex, ey⟩ := x
      simp only [Pt.v] at k5 k6 HC
      cases b
      · go_wp2_with (refine HC.out.mono ?_; rintro e w1 ⟨rfl, hB⟩; have HB1 := Aside0.mk (below_call HB.out hB); clear hB)
        go_roundw
        case rel => exact ⟨i + 1, rfl, by omega, ⟨HT.out trivial⟩, HB1⟩
        case measure => simp only [intOf]; omega
      · go_wp2_with (refine HC.out.mono ?_; rintro e w1 ⟨rfl, hB⟩; have HB1 := Aside0.mk (below_call HB.out hB); clear hB)
        go_ret
        exact ⟨i64_ret (by rw [HD.out, HS.out trivial]), HB1.out⟩
    · have hd : decide ((i : Int) < (l.length : Int)) = false := by simp; omega
      go_wp2
      go_ret
      refine ⟨i64_ret ?_, HB.out⟩
      rw [HD.out, idxI_none (fun x hx => HN.out x (by rw [List.take_of_length_le (by omega)]; exact hx))]
set_option maxRecDepth 100000 in
theorem hasP_any (f : Pt → Bool) (k : FuncId) (l : List Pt) (A : Option Addr) (c : Nat) (w : World) (h : RdP w A l) (hl : l.length ≤ 140737488355328)
    (hk : ∀ args W, (callFunc k args).run Tryd.prog W = .ok (.enter k args) W)
    (hf : ∀ p ∈ l, ∀ W, Below w.heap.size w W → Calls Tryd.prog k #[p.v] W fun e w' => e = .returned (.bool (f p)) ∧ Below W.heap.size W w') :
    Calls Tryd.prog 85 #[.slice A l.length c, .func (.func k) #[] #[]] w fun e w' => e = .returned (.bool (l.any f)) ∧ Below w.heap.size w w' := by
  have hcall := idxP_any f k l A c w h hl hk hf
  have hb := idxI_any f l
  generalize idxI f l = n at *
  generalize l.any f = b at *
  have HC := Aside0.mk hcall
  clear h hf hk hcall
  go_enter Tryd.func85, Tryd.ntmps85
  go_wp2_with (refine HC.out.mono ?_; rintro e w1 ⟨rfl, hB⟩; have HB1 := Aside0.mk hB; clear hB)
  go_ret
  exact ⟨bool_ret (by rw [← hb]), HB1.out⟩
end Go.Proofs.YtgabpbnndikheaaDoor

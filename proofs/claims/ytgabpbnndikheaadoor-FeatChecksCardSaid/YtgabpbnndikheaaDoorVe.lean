import Derived.Test.YtgabpbnndikheaaDoorVd
set_option linter.constructorNameAsVariable false
namespace Go.Proofs.YtgabpbnndikheaaDoor
open Go.RowKit Go.Proofs.YtgabpbnndikheaaDoorW.PrintWords

def numMax : Int := 1000000000000
def checkVal (v : Val) : Int :=
  if v.kind < 0 ∨ 3 < v.kind then 8
  else if (v.kind ≠ 1 ∧ v.n ≠ 0) ∨ (v.kind ≠ 2 ∧ v.s.size ≠ 0) ∨ (v.kind ≠ 3 ∧ v.b = true) then 3
  else if v.n < -1000000000000 ∨ 1000000000000 < v.n ∨ 40 < v.s.size then 2
  else if plainB v.s.data.toList = true then 0 else 3

theorem ret_int {k : IntKind} {a b : Int} (h : a = b) : Ending.returned (.int k a) = .returned (.int k b) := by rw [h]
theorem str_quote (s : ByteArray) : (⟨#[34]⟩ : ByteArray) ++ s ++ ⟨#[34]⟩ = ⟨(34 :: s.data.toList ++ [34]).toArray⟩ := by
  apply ByteArray.ext
  simp [ByteArray.data_append]
theorem toList_nil (s : ByteArray) : s.toList = [] ↔ s.size = 0 := by
  rw [ByteArray.toList_eq, ← List.length_eq_zero_iff]
  exact Iff.rfl

set_option maxHeartbeats 4000000 in
set_option maxRecDepth 100000 in
theorem check_any (v : Val) (w : World) (hm : v.s.size ≤ 9223372036854775807) :
    Calls Tryd.prog 10 #[v.v] w fun e w' => e = .returned (.int .i64 (checkVal v)) ∧ Below w.heap.size w w' := by
  obtain ⟨k, n, s, b⟩ := v
  simp only at hm
  unfold Val.v
  go_enter Tryd.func10, Tryd.ntmps10
  go_wp2_with (go_at_call 38; refine (plain_any s _ hm).mono ?_; rintro e w1 ⟨rfl, rfl⟩)
  all_goals
    go_ret
    refine ⟨ret_int ?_, below_alloc' (Below.refl _ _) _⟩
    have hts := toList_nil s
    simp only [checkVal]
    first
      | (simp_all; done)
      | (simp_all; omega)
      | skip

def showVal (v : Val) : List UInt8 :=
  if v.kind = 0 then [110, 105, 108] else if v.kind = 1 then Lib.itoa v.n else if v.kind = 2 then 34 :: v.s.data.toList ++ [34] else if v.kind = 3 then Lib.formatBool v.b else [63]

set_option maxHeartbeats 4000000 in
set_option maxRecDepth 100000 in
theorem show_any (v : Val) (w : World) (hE : Env w) (hm : v.s.size ≤ 140737488355232) (h0 : -9223372036854775808 ≤ v.n) (h1 : v.n ≤ 9223372036854775807) :
    Calls Tryd.prog 12 #[v.v] w fun e w' => e = .returned (.string ⟨(showVal v).toArray⟩) ∧ Below w.heap.size w w' := by
  obtain ⟨k, n, s, b⟩ := v
  simp only at hm h0 h1
  have HE := Aside0.mk hE
  clear hE
  unfold Val.v
  by_cases k0 : k = 0
  · subst k0
    go_enter Tryd.func12, Tryd.ntmps12
    go_wp2
    go_ret
    exact ⟨rfl, below_alloc' (Below.refl _ _) _⟩
  have b0 : (k == 0) = false := by simp [k0]
  by_cases k1 : k = 1
  · subst k1
    go_enter Tryd.func12, Tryd.ntmps12
    go_wp2_with (go_at_call 40; refine (itoa_any n _ (HE.out.below (below_alloc' (Below.refl _ _) _)) h0 h1).mono ?_; rintro e w1 ⟨rfl, hB⟩)
    go_ret
    exact ⟨rfl, (below_alloc' (Below.refl _ _) _).trans (hB.mono (by simp))⟩
  have b1 : (k == 1) = false := by simp [k1]
  by_cases k2 : k = 2
  · subst k2
    go_enter Tryd.func12, Tryd.ntmps12
    go_wp2
    go_ret
    exact ⟨congrArg (fun x => Ending.returned (.string x)) (str_quote s), below_alloc' (Below.refl _ _) _⟩
  have b2 : (k == 2) = false := by simp [k2]
  by_cases k3 : k = 3
  · subst k3
    go_enter Tryd.func12, Tryd.ntmps12
    go_wp2_with (go_at_call 41; refine (fmtBool_any b _).mono ?_; rintro e w1 ⟨rfl, rfl⟩)
    go_ret
    exact ⟨rfl, below_alloc' (Below.refl _ _) _⟩
  have b3 : (k == 3) = false := by simp [k3]
  have HS := Aside0.mk (show showVal ⟨k, n, s, b⟩ = [63] by unfold showVal; rw [if_neg k0, if_neg k1, if_neg k2, if_neg k3])
  clear k0 k1 k2 k3
  go_enter Tryd.func12, Tryd.ntmps12
  go_wp2
  go_ret
  exact ⟨by rw [HS.out]; rfl, below_alloc' (Below.refl _ _) _⟩
end Go.Proofs.YtgabpbnndikheaaDoor

import Derived.Test.YtgabpbnndikheaaDoorVm
set_option linter.constructorNameAsVariable false
/-! The reference's order and ValueCmp. -/
namespace Go.Proofs.YtgabpbnndikheaaDoor
open Go.RowKit Go.Proofs.YtgabpbnndikheaaDoorW.PrintWords

theorem order_any (a b : Int) (w : World) :
    Calls Tryd.prog 54 #[.int .i64 a, .int .i64 b] w fun e w' => e = .returned (.int .i64 (ord a b)) ∧ w = w' := by
  have h : (decide (a < b) = true ∧ ord a b = -1) ∨ (decide (a < b) = false ∧ decide (b < a) = true ∧ ord a b = 1) ∨ (decide (a < b) = false ∧ decide (b < a) = false ∧ ord a b = 0) := by
    unfold ord
    simp only [decide_eq_true_eq, decide_eq_false_iff_not]
    split <;> (try split) <;> omega
  rcases h with ⟨h1, h2⟩ | ⟨h1, h2, h3⟩ | ⟨h1, h2, h3⟩
  all_goals
    go_enter Tryd.func54, Tryd.ntmps54
    go_wp2
    go_ret
    exact ⟨ret_int (Eq.symm (by assumption)), rfl⟩
theorem less_cmp : ∀ a b : List UInt8, (Op.bytesLess a b = true ∧ (a == b) = false ∧ Lib.compareBytes a b = -1) ∨ (Op.bytesLess a b = false ∧ (a == b) = true ∧ Lib.compareBytes a b = 0) ∨ (Op.bytesLess a b = false ∧ (a == b) = false ∧ Lib.compareBytes a b = 1)
  | [], [] => .inr (.inl ⟨rfl, rfl, rfl⟩)
  | [], _ :: _ => .inl ⟨rfl, rfl, rfl⟩
  | _ :: _, [] => .inr (.inr ⟨rfl, rfl, rfl⟩)
  | a :: x, b :: y => by
    have ih := less_cmp x y
    unfold Op.bytesLess Lib.compareBytes
    by_cases h1 : a < b
    · left
      have hne : a ≠ b := fun e => by subst e; exact absurd h1 (UInt8.lt_irrefl _)
      simp [h1, hne]
    · by_cases h2 : b < a
      · right; right
        have hne : a ≠ b := fun e => by subst e; exact absurd h2 (UInt8.lt_irrefl _)
        simp [h1, h2, hne]
      · have he : a = b := UInt8.le_antisymm (UInt8.not_lt.1 h2) (UInt8.not_lt.1 h1)
        subst he
        simpa [h1] using ih
def Two (k1 k2 : Int) (v : Value) (W : World) : Prop := ∃ A, v = .slice A 2 2 ∧ (Kd.int .i64).C W A 2 [k1, k2]

set_option maxHeartbeats 4000000 in
set_option maxRecDepth 100000 in
theorem rcmp_any (x y : Val) (w : World) :
    Calls Tryd.prog 30 #[x.v, y.v] w fun e w' => e = .returned (.int .i64 (cmpVal x y)) ∧ Below w.heap.size w w' := by
  obtain ⟨xk, xn, xs, xb⟩ := x
  obtain ⟨yk, yn, ys, yb⟩ := y
  have hc : firstNZ [ord xk yk, ord xn yn, Lib.compareBytes xs.data.toList ys.data.toList, bi xb - bi yb] = cmpVal ⟨xk, xn, xs, xb⟩ ⟨yk, yn, ys, yb⟩ := rfl
  generalize cmpVal ⟨xk, xn, xs, xb⟩ ⟨yk, yn, ys, yb⟩ = r at *
  have hstr := less_cmp xs.toList ys.toList
  rw [ByteArray.toList_eq, ByteArray.toList_eq] at hstr
  rw [← ByteArray.toList_eq, ← ByteArray.toList_eq] at hstr hc
  have HC := Aside0.mk hc
  clear hc
  have HS := Aside0.mk hstr
  clear hstr
  unfold Val.v
  go_enter Tryd.func30, Tryd.ntmps30
  go_wp2_with fail
  refine box2_elim fun w0 HB0 HX HY => ?_
  generalize hg : w.heap.size = g at *
  have HG := Aside0.mk hg
  clear hg
  refine wp_region_loc (by kernel_rfl) (by kernel_rfl) (by kernel_rfl) (fun xs => by simp only [fill, Act.put, List.setIfInBounds_toArray, List.set_cons_zero, List.set_cons_succ, Nat.reduceAdd]; rfl) ?_
  repeat (apply wpLoc_det; · (intro vs W hb he; have k1 := (HX.out.keep hb).c0; have k2 := (HX.out.keep hb).c1; have k5 := (HY.out.keep hb).c0; have k6 := (HY.out.keep hb).c1; simp only at k1 k2 k5 k6; simp [edgeSat, Region.binds, Fact.at_] at he; unfold locRun; go_simp; first | exact loc_val | (with_reducible exact loc_call_same (order_any _ _ W))))
  apply wpLoc_fresh (Two (ord xk yk) (ord xn yn))
  · exact fun u W W' hb ⟨A, e, h⟩ => ⟨A, e, Kd.C_below h hb⟩
  · intro vs W hb he
    simp [edgeSat, Region.binds, Fact.at_] at he
    unfold locRun
    go_simp
    exact ⟨below_alloc' (Below.refl _ _) _, _, rfl, lit_C W _ [_, _] (by simp)⟩
  apply wpLoc_det
  · intro vs W hb he
    simp [edgeSat, Region.binds, Fact.at_] at he
    obtain ⟨A, e, h⟩ := he
    unfold locRun
    go_simp
    exact loc_val
  repeat (apply wpLoc_det; · (intro vs W hb he; simp [edgeSat, Region.binds, Fact.at_] at he; unfold locRun; go_simp; exact loc_val))
  refine wpLoc_nil fun vs W hb he => ?_
  simp only [List.nil_append, List.cons_append, factsAll, Fact.at_, Nat.reduceAdd] at he
  obtain ⟨-, -, -, -, -, -, -, -, -, -, ⟨A, e10, hC⟩, e11, e12, -⟩ := he
  rw [e10, e11, e12]
  have HB := Aside0.mk (HG.out ▸ HB0.out.trans (hb.mono (HG.out ▸ HB0.out.size)) : Below w.heap.size w W)
  have HXW := Aside0.mk (HX.out.keep hb)
  have HYW := Aside0.mk (HY.out.keep hb)
  clear HX HY HB0 hb HG e10 e11 e12
  have HA := Aside0.mk hC
  generalize ord xk yk = o1 at *
  generalize ord xn yn = o2 at *
  clear hC
  go_wp2
  go_loop [19] (fun i => ∃ k : Nat, k ≤ 2 ∧ i = .int .i64 k ∧ Aside0 (r = firstNZ ([o1, o2, Lib.compareBytes xs.toList ys.toList, bi xb - bi yb].drop k))) (fun i => 2 - (intOf i).toNat)
  case atStart => exact ⟨0, by omega, rfl, ⟨HC.out.symm⟩⟩
  case round =>
    obtain ⟨k, hk, rfl, HF⟩ := hrel
    have hk3 : k = 0 ∨ k = 1 ∨ k = 2 := by omega
    rcases hk3 with rfl | rfl | rfl
    · obtain ⟨ad, rfl, hc⟩ := C1_at HA.out (i := 0) (by simp)
      simp [Addr.add] at hc
      have HF1 := HF.out
      simp only [List.drop_zero, List.drop_succ_cons, firstNZ] at HF1
      by_cases hy : o1 = 0
      · rw [if_pos hy] at HF1
        have HF2 := Aside0.mk HF1
        have hb : (o1 != 0) = false := by simp [hy]
        clear HF HF1 hy
        go_wp2
        go_round
        case rel => exact ⟨1, by omega, by go_num, HF2⟩
        case measure => simp [intOf]
      · rw [if_neg hy] at HF1
        have HF2 := Aside0.mk HF1
        have hb : (o1 != 0) = true := by simp [hy]
        clear HF HF1 hy
        go_wp2
        go_ret
        exact ⟨ret_int HF2.out.symm, HB.out⟩
    · obtain ⟨ad, rfl, hc⟩ := C1_at HA.out (i := 1) (by simp)
      simp [Addr.add] at hc
      have HF1 := HF.out
      simp only [List.drop_zero, List.drop_succ_cons, firstNZ] at HF1
      by_cases hy : o2 = 0
      · rw [if_pos hy] at HF1
        have HF2 := Aside0.mk HF1
        have hb : (o2 != 0) = false := by simp [hy]
        clear HF HF1 hy
        go_wp2
        go_round
        case rel => exact ⟨2, by omega, by go_num, HF2⟩
        case measure => simp [intOf]
      · rw [if_neg hy] at HF1
        have HF2 := Aside0.mk HF1
        have hb : (o2 != 0) = true := by simp [hy]
        clear HF HF1 hy
        go_wp2
        go_ret
        exact ⟨ret_int HF2.out.symm, HB.out⟩
    · have HF1 := HF.out
      simp only [List.drop_zero, List.drop_succ_cons, firstNZ] at HF1
      clear HF HC HA
      obtain ⟨k1, k2, k3, k4⟩ := HXW.out.cs
      obtain ⟨k5, k6, k7, k8⟩ := HYW.out.cs
      simp only at k1 k2 k3 k4 k5 k6 k7 k8
      have hs := HS.out
      clear HS
      rcases hs with ⟨s1, s2, s3⟩ | ⟨s1, s2, s3⟩ | ⟨s1, s2, s3⟩ <;> rw [s3] at HF1 <;> clear s3 <;> cases xb <;> cases yb
      all_goals
        have HF2 := Aside0.mk HF1
        clear HF1
        go_wp2
        go_ret
        exact ⟨ret_int (by rw [HF2.out]; rfl), HB.out⟩
end Go.Proofs.YtgabpbnndikheaaDoor

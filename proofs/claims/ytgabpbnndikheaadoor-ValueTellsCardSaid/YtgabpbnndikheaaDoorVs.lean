import Derived.Test.YtgabpbnndikheaaDoorVq
import Derived.Test.YtgabpbnndikheaaDoorVn
set_option linter.constructorNameAsVariable false
/-! The walk of ValueTells. -/
namespace Go.Proofs.YtgabpbnndikheaaDoor
open Go.RowKit Go.Proofs.YtgabpbnndikheaaDoorW.PrintWords

theorem show_m7 : (⟨(showVal (vNum (-7))).toArray⟩ : ByteArray) = ⟨#[45, 55]⟩ := by decide +kernel
set_option maxHeartbeats 4000000 in
set_option maxRecDepth 100000 in
theorem begun_any (w : World) (hE : Env w) :
    Calls Tryd.prog 24 #[] w fun e w' => e = .returned (.bool true) ∧ Below w.heap.size w w' := by
  have q := fun W => val_eql (vNum (-7)) (vNum (-7)) W
  rw [sameB_self] at q
  simp only [vNum] at q
  have s1 := fun W (h : Env W) => show_any (vNum (-7)) W h (by decide) (by decide) (by decide)
  rw [show_m7] at s1
  simp only [vNum, Val.v] at s1
  have S1 := Aside0.mk s1
  clear s1
  go_enter Tryd.func24, Tryd.ntmps24
  go_wp2_with (first
    | (go_at_call 11; go_loud (refine (read_any ⟨#[45, 55]⟩ _ hE (by decide)).mono ?_; rintro e w1 ⟨rfl, hB1⟩; rw [read_m7]; simp only [vNum, Val.v]; have hL1 := below_alloc' (Below.refl w1.heap.size w1) (.cells #[.int .i64 1, .int .i64 (-7), .string ⟨#[]⟩, .bool false] 23); have hE2 := (hE.below hB1).below hL1; have hK2 := hB1.trans (hL1.mono hB1.size)))
    | (go_at_call 12; go_loud (with_reducible refine (S1.out _ hE2).mono ?_; rintro e w3 ⟨rfl, hB3⟩; have hK3 := hK2.trans (hB3.mono hK2.size))))
  go_ret
  exact ⟨by simp, hK3⟩

set_option maxHeartbeats 8000000 in
set_option maxRecDepth 100000 in
theorem valueTells_any (x y : Val) (s : ByteArray) (w : World) (hE : Env w) (hk : -9223372036854775808 ≤ x.kind ∧ x.kind ≤ 9223372036854775807) (hn : -9223372036854775808 ≤ x.n ∧ x.n ≤ 9223372036854775807) (hx : x.s.size ≤ 140737488351232)
    (hk' : -9223372036854775808 ≤ y.kind ∧ y.kind ≤ 9223372036854775807) (hn' : -9223372036854775808 ≤ y.n ∧ y.n ≤ 9223372036854775807) (hy : y.s.size ≤ 140737488351232) (hs : s.size ≤ 140737488351232) :
    Calls Tryd.prog 6 #[x.v, y.v, .string s] w fun e w' => e = .returned (.bool true) ∧ Below w.heap.size w w' := by
  have c1 := fun W => check_any x W (by omega)
  have c2 := fun W => verr_any x W
  have d1 := fun W => cmp_any x y W
  have d2 := fun W => rcmp_any x y W
  have s1 := fun W (h : Env W) => show_any x W h (by omega) hn.1 hn.2
  have s2 := fun W (h : Env W) => shown_any x W h (by omega) hn.1 hn.2
  have r1 := fun W (h : Env W) => read_any s W h (by omega)
  have r2 := fun W (h : Env W) => valueOf_any s W h (by omega)
  generalize readVal s = R at r1 r2
  obtain ⟨z, E⟩ := R
  have q4 := fun W => val_eql z z W
  rw [sameB_self] at q4
  have q1 := fun W => val_neq (vNum x.n) (vNum x.n) W
  rw [sameB_self] at q1
  have q2 := fun W => val_neq (vText s) (vText s) W
  rw [sameB_self] at q2
  have q3 := fun W => val_neq (vBool x.b) (vBool x.b) W
  rw [sameB_self] at q3
  have n1 := fun W => num_any x.n W
  have n2 := fun W => text_any s W
  have n3 := fun W => bool_any x.b W
  generalize checkVal x = C at c1 c2
  generalize cmpVal x y = D at d1 d2
  generalize showVal x = S at s1 s2
  clear hk hn hx hk' hn' hy hs
  obtain ⟨xk, xn, xs, xb⟩ := x
  obtain ⟨yk, yn, ys, yb⟩ := y
  obtain ⟨zk, zn, zs, zb⟩ := z
  simp only [Val.v, vNum, vText, vBool, Bool.not_true] at *
  have C1 := Aside0.mk c1
  have C2 := Aside0.mk c2
  have D1 := Aside0.mk d1
  have D2 := Aside0.mk d2
  have S1 := Aside0.mk s1
  have S2 := Aside0.mk s2
  have R1 := Aside0.mk r1
  have R2 := Aside0.mk r2
  have N1 := Aside0.mk n1
  have N2 := Aside0.mk n2
  have N3 := Aside0.mk n3
  have HE := Aside0.mk hE
  clear c1 c2 d1 d2 s1 s2 r1 r2 n1 n2 n3 hE
  go_enter Tryd.func6, Tryd.ntmps6
  go_wp2_with fail
  refine box2_elim fun w0 HB0 HX HY => ?_
  have HE0 := Aside0.mk (HE.out.below HB0.out)
  generalize hg : w.heap.size = g at *
  have HG := Aside0.mk hg
  clear hg
  refine wp_region_loc (by kernel_rfl) (by kernel_rfl) (by kernel_rfl) (fun xs => by simp only [fill, Act.put, List.setIfInBounds_toArray, List.set_cons_zero, List.set_cons_succ, Nat.reduceAdd]; rfl) ?_
  repeat (apply wpLoc_det; · (intro vs W hb he; obtain ⟨k1, k2, k3, k4⟩ := (HX.out.keep hb).cs; simp only at k1 k2 k3 k4; simp [edgeSat, Region.binds, Fact.at_] at he; unfold locRun; go_simp; first | exact loc_val | (with_reducible exact loc_call (N1.out W)) | (with_reducible exact loc_call (N2.out W)) | (with_reducible exact loc_call (N3.out W)) | (with_reducible exact loc_call (begun_any W (HE0.out.below hb)))))
  refine wpLoc_nil fun vs W hb he => ?_
  simp only [List.nil_append, List.cons_append, factsAll, Fact.at_, Nat.reduceAdd] at he
  obtain ⟨-, -, -, -, -, -, -, -, -, -, -, -, -, -, -, -, -, -, -, -, -, -, -, -, -, -, e26, -⟩ := he
  rw [e26]
  have HE1 := Aside0.mk (HE0.out.below hb)
  have HK1 := Aside0.mk (HG.out ▸ HB0.out.trans (hb.mono (HG.out ▸ HB0.out.size)) : Below w.heap.size w W)
  have HX1 := Aside0.mk (HX.out.keep hb)
  have HY1 := Aside0.mk (HY.out.keep hb)
  clear HX HY HB0 HE0 hb e26 HG q1 q2 q3 N1 N2 N3
  go_wp2_with (first
    | (go_at_call 11; go_loud (refine (R1.out W HE1.out).mono ?_; rintro e w1 ⟨rfl, hB1⟩; have hL1 := below_alloc' (Below.refl w1.heap.size w1) (.cells #[.int .i64 zk, .int .i64 zn, .string zs, .bool zb] 23); have HE2 := Aside0.mk ((HE1.out.below hB1).below hL1); have HZ1 := Aside0.mk (boxed_alloc w1 ⟨zk, zn, zs, zb⟩); have HK2 := Aside0.mk (hB1.trans (hL1.mono hB1.size)); clear hL1 hB1))
    | (go_at_call 28; go_loud (refine (R2.out _ HE2.out).mono ?_; rintro e w3 ⟨rfl, hB3⟩; have HE3 := Aside0.mk (HE2.out.below hB3); have HZ3 := Aside0.mk (HZ1.out.keep hB3); have HK3 := Aside0.mk (HK2.out.trans (hB3.mono HK2.out.size)); clear hB3 HE2 HZ1 HK2)))
  refine box1_elim fun w5 HB5 HZ5 => ?_
  have HE5 := Aside0.mk (HE3.out.below HB5.out)
  have HZ6 := Aside0.mk (HZ3.out.keep HB5.out)
  have HK5 := Aside0.mk (HK3.out.trans (HB5.out.mono HK3.out.size))
  have HX5 := Aside0.mk (HX1.out.keep HK5.out)
  have HY5 := Aside0.mk (HY1.out.keep HK5.out)
  have HW5 := Aside0.mk (HK1.out.trans (HK5.out.mono HK1.out.size))
  clear HX1 HY1 HE1 HE3 HB5 HZ3 HK3 HK5 HK1
  generalize w1.heap.size = g1 at *
  generalize w3.heap.size = g3 at *
  refine wp_region_loc (by kernel_rfl) (by kernel_rfl) (by kernel_rfl) (fun xs => by simp only [fill, Act.put, List.setIfInBounds_toArray, List.set_cons_zero, List.set_cons_succ, Nat.reduceAdd]; rfl) ?_
  repeat (apply wpLoc_det; · (intro vs W hb he; obtain ⟨k1, k2, k3, k4⟩ := (HX5.out.keep hb).cs; obtain ⟨k5, k6, k7, k8⟩ := (HY5.out.keep hb).cs; obtain ⟨l1, l2, l3, l4⟩ := (HZ6.out.keep hb).cs; obtain ⟨l5, l6, l7, l8⟩ := (HZ5.out.keep hb).cs; simp only at k1 k2 k3 k4 k5 k6 k7 k8 l1 l2 l3 l4 l5 l6 l7 l8; simp [edgeSat, Region.binds, Fact.at_] at he; unfold locRun; go_simp; first | exact loc_val | (with_reducible exact loc_call (C1.out W)) | (with_reducible exact loc_call (C2.out W)) | (with_reducible exact loc_call (D1.out W)) | (with_reducible exact loc_call (D2.out W)) | (with_reducible exact loc_call (S1.out W (HE5.out.below hb))) | (with_reducible exact loc_call (S2.out W (HE5.out.below hb)))))
  refine wpLoc_nil fun vs W2 hb he => ?_
  simp only [List.nil_append, List.cons_append, factsAll, Fact.at_, Nat.reduceAdd] at he
  obtain ⟨-, -, -, -, -, -, -, -, -, -, -, -, -, -, -, -, -, -, -, -, -, -, -, -, -, -, -, -, -, -, -, e31, -⟩ := he
  go_wp2
  go_ret
  exact ⟨congrArg Ending.returned e31, HW5.out.trans (hb.mono HW5.out.size)⟩
end Go.Proofs.YtgabpbnndikheaaDoor

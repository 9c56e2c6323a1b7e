import Derived.Test.YtgabpbnndikheaaDoorGi
import Derived.Test.YtgabpbnndikheaaDoorRr
set_option linter.constructorNameAsVariable false
/-! Rings: edges apart. -/
namespace Go.Proofs.YtgabpbnndikheaaDoor
open Go.RowKit Go.Proofs.YtgabpbnndikheaaDoorW.PrintWords

def pt (r : List Pt) (i : Nat) : Pt := r.getD i ⟨0, 0⟩
theorem RdP.pt {w : World} {A : Option Addr} {l : List Pt} (h : RdP w A l) {i : Nat} (hi : i < l.length) :
    ∃ ad, A = some ad ∧ w.cell? (ad.add (i * 2)) = some (.int .i64 (pt l i).x) ∧ w.cell? ⟨(ad.add (i * 2)).block, (ad.add (i * 2)).off + 1, none⟩ = some (.int .i64 (pt l i).y) := by
  have h1 := h.at_ hi
  have e : Go.Proofs.YtgabpbnndikheaaDoor.pt l i = l[i] := by unfold Go.Proofs.YtgabpbnndikheaaDoor.pt; rw [List.getD_eq_getElem?_getD, List.getElem?_eq_getElem hi]; rfl
  rw [e]
  exact h1
def apartIn (a b c d : Pt) (nx ls : Bool) : Bool := if (a.x == b.x && a.y == b.y) || (c.x == d.x && c.y == d.y) then false else if nx || ls then meet a b c d == 1 else meet a b c d == 0
def apart (r : List Pt) (k i : Nat) : Bool := apartIn (pt r k) (pt r ((k + 1) % r.length)) (pt r i) (pt r ((i + 1) % r.length)) (k + 1 == i) ((i + 1) % r.length == k)
theorem put_box {w0 w : World} {g : Nat} {x : Pt} (hb : w0.heap.size ≤ g) (h : w.heap[g]? = some (.cells #[.int .i64 x.x, .int .i64 x.y] 73 (0, 0))) (m n : Int) :
    Below w0.heap.size w ((w.setCell ⟨g, 0, none⟩ (.int .i64 m)).setCell ⟨g, 1, none⟩ (.int .i64 n)) ∧ (∀ k, k ≠ g → ((w.setCell ⟨g, 0, none⟩ (.int .i64 m)).setCell ⟨g, 1, none⟩ (.int .i64 n)).heap[k]? = w.heap[k]?) ∧
      ((w.setCell ⟨g, 0, none⟩ (.int .i64 m)).setCell ⟨g, 1, none⟩ (.int .i64 n)).heap[g]? = some (.cells #[.int .i64 m, .int .i64 n] 73 (0, 0)) := by
  have hP : BoxP w g x := h
  refine ⟨below_set2 (Below.refl _ _) hb m n, fun k hk => ?_, hP.set m n⟩
  rw [Below.heap_setCell _ _ _ _ hk, Below.heap_setCell _ _ _ _ hk]
set_option maxHeartbeats 4000000 in
set_option maxRecDepth 100000 in
theorem apart_any (r : List Pt) (A : Option Addr) (c k i : Nat) (w : World) (h : RdP w A r) (hl : r.length ≤ 140737488355328) (hk : k < r.length) (hi : i < r.length) :
    Calls Tryd.prog 112 #[.slice A r.length c, .int .i64 k, .int .i64 i] w fun e w' => e = .returned (.bool (apart r k i)) ∧ Below w.heap.size w w' := by
  obtain ⟨R, hR⟩ : ∃ R, R = apart r k i := ⟨_, rfl⟩
  rw [← hR]
  unfold apart at hR
  obtain ⟨k', hke⟩ : ∃ k', k' = (k + 1) % r.length := ⟨_, rfl⟩
  obtain ⟨i', hie⟩ : ∃ i', i' = (i + 1) % r.length := ⟨_, rfl⟩
  rw [← hke, ← hie] at hR
  have hk' : k' < r.length := by rw [hke]; exact Nat.mod_lt _ (by omega)
  have hi' : i' < r.length := by rw [hie]; exact Nat.mod_lt _ (by omega)
  have n6 : ((k : Int) + 1).tmod (r.length : Int) = (k' : Int) := by rw [hke, Int.tmod_eq_emod_of_nonneg (by omega)]; push_cast; rfl
  have n7 : ((i : Int) + 1).tmod (r.length : Int) = (i' : Int) := by rw [hie, Int.tmod_eq_emod_of_nonneg (by omega)]; push_cast; rfl
  have HR := Aside0.mk h
  have HD := Aside0.mk hR
  obtain ⟨ad, rfl, -⟩ := h.pt hk
  clear h hR hke hie
  have n1 : (k : Int) < (r.length : Int) := by omega
  have n2 : (i : Int) < (r.length : Int) := by omega
  have n1' : (k' : Int) < (r.length : Int) := by omega
  have n2' : (i' : Int) < (r.length : Int) := by omega
  have n3 : IntKind.i64.wrap ((k : Int) + 1) = (k : Int) + 1 := by rw [IntKind.wrap_i64]; omega
  have n4 : IntKind.i64.wrap ((i : Int) + 1) = (i : Int) + 1 := by rw [IntKind.wrap_i64]; omega
  have n5 : r ≠ [] := by intro e; subst e; simp at hk
  obtain ⟨pa, ha⟩ : ∃ pa, pa = pt r k := ⟨_, rfl⟩
  obtain ⟨pb, hb⟩ : ∃ pb, pb = pt r k' := ⟨_, rfl⟩
  obtain ⟨pc, hcc⟩ : ∃ pc, pc = pt r i := ⟨_, rfl⟩
  obtain ⟨pd, hd⟩ : ∃ pd, pd = pt r i' := ⟨_, rfl⟩
  have HRA : Aside0 (∀ W, Below w.heap.size w W → W.cell? (ad.add (k * 2)) = some (.int .i64 pa.x) ∧ W.cell? ⟨(ad.add (k * 2)).block, (ad.add (k * 2)).off + 1, none⟩ = some (.int .i64 pa.y)) := ⟨fun W hW => by obtain ⟨_, e0, k1, k2⟩ := (HR.out.keep hW).pt hk; injection e0 with e0; subst e0; rw [ha]; exact ⟨k1, k2⟩⟩
  have HRB : Aside0 (∀ W, Below w.heap.size w W → W.cell? (ad.add (k' * 2)) = some (.int .i64 pb.x) ∧ W.cell? ⟨(ad.add (k' * 2)).block, (ad.add (k' * 2)).off + 1, none⟩ = some (.int .i64 pb.y)) := ⟨fun W hW => by obtain ⟨_, e0, k1, k2⟩ := (HR.out.keep hW).pt hk'; injection e0 with e0; subst e0; rw [hb]; exact ⟨k1, k2⟩⟩
  have HRC : Aside0 (∀ W, Below w.heap.size w W → W.cell? (ad.add (i * 2)) = some (.int .i64 pc.x) ∧ W.cell? ⟨(ad.add (i * 2)).block, (ad.add (i * 2)).off + 1, none⟩ = some (.int .i64 pc.y)) := ⟨fun W hW => by obtain ⟨_, e0, k1, k2⟩ := (HR.out.keep hW).pt hi; injection e0 with e0; subst e0; rw [hcc]; exact ⟨k1, k2⟩⟩
  have HRD : Aside0 (∀ W, Below w.heap.size w W → W.cell? (ad.add (i' * 2)) = some (.int .i64 pd.x) ∧ W.cell? ⟨(ad.add (i' * 2)).block, (ad.add (i' * 2)).off + 1, none⟩ = some (.int .i64 pd.y)) := ⟨fun W hW => by obtain ⟨_, e0, k1, k2⟩ := (HR.out.keep hW).pt hi'; injection e0 with e0; subst e0; rw [hd]; exact ⟨k1, k2⟩⟩
  rw [← ha, ← hb, ← hcc, ← hd] at HD
  clear ha hb hcc hd HR
  obtain ⟨ax, ay⟩ := pa
  obtain ⟨bx, b_y⟩ := pb
  obtain ⟨cx, cy⟩ := pc
  obtain ⟨dx, dy⟩ := pd
  simp only at HRA HRB HRC HRD
  go_enter Tryd.func112, Tryd.ntmps112
  go_wp2_with fail
  refine wp_region_mem [_, _, _, _, _, _, _, _, _, _, _, _, _, _, _, _, _, _, _, _, _, _, _, _, _, _, _, _, _, _] rfl (by kernel_rfl) (by kernel_rfl) (by kernel_rfl) (fun xs => by simp only [fill, Act.put, List.setIfInBounds_toArray, List.set_cons_zero, List.set_cons_succ, Nat.reduceAdd]; rfl) ?_
  iterate 22 (apply wpLocM_det; · (intro vs W hb he; obtain ⟨k1, k2⟩ := HRA.out W hb; obtain ⟨k3, k4⟩ := HRB.out W hb; obtain ⟨k5, k6⟩ := HRC.out W hb; obtain ⟨k7, k8⟩ := HRD.out W hb; simp [edgeM, Region.binds, Fact.at_] at he; unfold locRun; go_simp; first | exact loc_val ))
  iterate 4 (apply wpLocM_new (.cells #[.int .i64 0, .int .i64 0] 73 (0, 0)); · (intro vs W hb he; refine ⟨by rfl, ?_⟩; go_simp; done))
  apply wpLocM_store 22 3 (.cells #[.int .i64 0, .int .i64 0] 73 (0, 0)) (.cells #[.int .i64 ax, .int .i64 ay] 73 (0, 0)) (.agg #[.int .i64 ax, .int .i64 ay]) (by kernel_rfl) (by kernel_rfl) (by kernel_rfl) (by kernel_rfl) rfl rfl
  · intro vs W g hg hv hge hcur
    obtain ⟨k1, k2⟩ := (show BoxP W g ⟨0, 0⟩ from hcur).cs
    have k3 := (show BoxP W g ⟨0, 0⟩ from hcur).fr
    simp only at k1 k2
    refine ⟨_, ?_, put_box (x := ⟨0, 0⟩) hge hcur ax ay⟩
    go_simp
    done
  apply wpLocM_store 23 10 (.cells #[.int .i64 0, .int .i64 0] 73 (0, 0)) (.cells #[.int .i64 bx, .int .i64 b_y] 73 (0, 0)) (.agg #[.int .i64 bx, .int .i64 b_y]) (by kernel_rfl) (by kernel_rfl) (by kernel_rfl) (by kernel_rfl) rfl rfl
  · intro vs W g hg hv hge hcur
    obtain ⟨k1, k2⟩ := (show BoxP W g ⟨0, 0⟩ from hcur).cs
    have k3 := (show BoxP W g ⟨0, 0⟩ from hcur).fr
    simp only at k1 k2
    refine ⟨_, ?_, put_box (x := ⟨0, 0⟩) hge hcur bx b_y⟩
    go_simp
    done
  apply wpLocM_store 24 14 (.cells #[.int .i64 0, .int .i64 0] 73 (0, 0)) (.cells #[.int .i64 cx, .int .i64 cy] 73 (0, 0)) (.agg #[.int .i64 cx, .int .i64 cy]) (by kernel_rfl) (by kernel_rfl) (by kernel_rfl) (by kernel_rfl) rfl rfl
  · intro vs W g hg hv hge hcur
    obtain ⟨k1, k2⟩ := (show BoxP W g ⟨0, 0⟩ from hcur).cs
    have k3 := (show BoxP W g ⟨0, 0⟩ from hcur).fr
    simp only at k1 k2
    refine ⟨_, ?_, put_box (x := ⟨0, 0⟩) hge hcur cx cy⟩
    go_simp
    done
  apply wpLocM_store 25 21 (.cells #[.int .i64 0, .int .i64 0] 73 (0, 0)) (.cells #[.int .i64 dx, .int .i64 dy] 73 (0, 0)) (.agg #[.int .i64 dx, .int .i64 dy]) (by kernel_rfl) (by kernel_rfl) (by kernel_rfl) (by kernel_rfl) rfl rfl
  · intro vs W g hg hv hge hcur
    obtain ⟨k1, k2⟩ := (show BoxP W g ⟨0, 0⟩ from hcur).cs
    have k3 := (show BoxP W g ⟨0, 0⟩ from hcur).fr
    simp only at k1 k2
    refine ⟨_, ?_, put_box (x := ⟨0, 0⟩) hge hcur dx dy⟩
    go_simp
    done
  refine wpLocM_nil (by kernel_rfl) fun vs W hb he hap => ?_
  simp only [List.nil_append, List.cons_append, factsM, Nat.reduceAdd] at he
  obtain ⟨-, -, -, -, -, -, -, -, -, -, -, -, -, -, -, -, -, -, -, -, -, -,  ⟨g1, e1, l1⟩, ⟨g2, e2, l2⟩, ⟨g3, e3, l3⟩, ⟨g4, e4, l4⟩, ⟨_, f1, B1⟩, ⟨_, f2, B2⟩, ⟨_, f3, B3⟩, ⟨_, f4, B4⟩, -⟩ := he
  rw [ptrTo_inj e1 f1] at B1
  rw [ptrTo_inj e2 f2] at B2
  rw [ptrTo_inj e3 f3] at B3
  rw [ptrTo_inj e4 f4] at B4
  clear f1 f2 f3 f4 hap l1 l2 l3 l4
  rw [e1, e2, e3, e4]
  have HX := Aside0.mk (show BoxP W g1 ⟨ax, ay⟩ from B1)
  have HY := Aside0.mk (show BoxP W g2 ⟨bx, b_y⟩ from B2)
  have HZ := Aside0.mk (show BoxP W g3 ⟨cx, cy⟩ from B3)
  have HU := Aside0.mk (show BoxP W g4 ⟨dx, dy⟩ from B4)
  have HB0 := Aside0.mk hb
  simp only [ptrTo]
  clear B1 B2 B3 B4 e1 e2 e3 e4 hb HRA HRB HRC HRD
  go_wp2_with fail
  refine wp_region_loc (by kernel_rfl) (by kernel_rfl) (by kernel_rfl) (fun xs => by simp only [fill, Act.put, List.setIfInBounds_toArray, List.set_cons_zero, List.set_cons_succ, Nat.reduceAdd]; rfl) ?_
  repeat (apply wpLoc_det; · (intro vs W hb he; simp [edgeSat, Region.binds, Fact.at_] at he; unfold locRun; go_simp; first | exact loc_val ))
  refine wpLoc_nil fun vs2 W2 hb he => ?_
  simp only [List.nil_append, List.cons_append, factsAll, Fact.at_, Nat.reduceAdd] at he
  obtain ⟨-, -, -, -, -, -, -, -, -, -, e10, e11, -⟩ := he
  rw [e10, e11]
  have q1 : (k + 1 == i) = ((k : Int) + 1 == (i : Int)) := by
    rw [Bool.eq_iff_iff, beq_iff_eq, beq_iff_eq]; omega
  have q2 : (i' == k) = ((i' : Int) == (k : Int)) := by
    rw [Bool.eq_iff_iff, beq_iff_eq, beq_iff_eq]; omega
  rw [q1, q2] at HD
  generalize ((k : Int) + 1 == (i : Int)) = nx at *
  generalize ((i' : Int) == (k : Int)) = ls at *
  obtain ⟨f1, hf1⟩ : ∃ f1, f1 = (ax == bx && ay == b_y) := ⟨_, rfl⟩
  obtain ⟨f2, hf2⟩ : ∃ f2, f2 = (cx == dx && cy == dy) := ⟨_, rfl⟩
  have HF1 := Aside0.mk hf1
  have HF2 := Aside0.mk hf2
  have mt := fun W => meet_any ⟨ax, ay⟩ ⟨bx, b_y⟩ ⟨cx, cy⟩ ⟨dx, dy⟩ W
  unfold apartIn at HD
  simp only at HD
  rw [← hf1, ← hf2] at HD
  clear hf1 hf2
  generalize meet ⟨ax, ay⟩ ⟨bx, b_y⟩ ⟨cx, cy⟩ ⟨dx, dy⟩ = m at mt HD
  simp only [Pt.v] at mt
  have MT := Aside0.mk mt
  have HB2 := Aside0.mk (below_call HB0.out hb)
  have HX2 := Aside0.mk (HX.out.keep hb)
  have HY2 := Aside0.mk (HY.out.keep hb)
  have HZ2 := Aside0.mk (HZ.out.keep hb)
  have HU2 := Aside0.mk (HU.out.keep hb)
  clear mt q1 q2 e10 e11 hb HX HY HZ HU HB0 n1 n2 n3 n4 n5 n6 n7 n1' n2'
  refine (by assumption : ∀ (a : Act) (w : World), Code.wp Tryd.prog _ _ a w → _) _ _ ?_
  repeat refine wp_seq_k fun _ _ => ?_
  refine wp_region_row [_, _, _, _, _, _, _, _] rfl (by kernel_rfl) (by kernel_rfl) (fun xs => by simp only [fill, Act.put, List.setIfInBounds_toArray, List.set_cons_zero, List.set_cons_succ, Nat.reduceAdd]; rfl) ?_
  (iterate 2 (apply wpLoc_det; · (intro vs W hb he; obtain ⟨k1, k2⟩ := (HX2.out.keep hb).cs; obtain ⟨k3, k4⟩ := (HY2.out.keep hb).cs; obtain ⟨k5, k6⟩ := (HZ2.out.keep hb).cs; obtain ⟨k7, k8⟩ := (HU2.out.keep hb).cs; simp only at k1 k2 k3 k4 k5 k6 k7 k8; simp [edgeSat, Region.binds, Fact.at_] at he;  unfold locRun; go_simp; exact loc_val)))
  refine wpLoc_det (.bool f1) (fun vs W hb he => ?_) ?_
  · (rw [HF1.out]; simp [edgeSat, Region.binds, Fact.at_] at he;  unfold locRun; go_simp; exact loc_eq2 ax bx ay b_y)
  refine wpLoc_det (.bool f1) (fun vs W hb he => ?_) ?_
  · (simp [edgeSat, Region.binds, Fact.at_] at he;  unfold locRun; go_simp; exact loc_val)
  refine wpLoc_det (if f1 then undef else .agg #[.int .i64 cx, .int .i64 cy]) (fun vs W hb he => ?_) ?_
  · (obtain ⟨k1, k2⟩ := (HX2.out.keep hb).cs; obtain ⟨k3, k4⟩ := (HY2.out.keep hb).cs; obtain ⟨k5, k6⟩ := (HZ2.out.keep hb).cs; obtain ⟨k7, k8⟩ := (HU2.out.keep hb).cs; simp only at k1 k2 k3 k4 k5 k6 k7 k8;  cases f1 <;> (simp [edgeSat, Region.binds, Fact.at_] at he;  unfold locRun; go_simp; try exact loc_val))
  refine wpLoc_det (if f1 then undef else .agg #[.int .i64 dx, .int .i64 dy]) (fun vs W hb he => ?_) ?_
  · (obtain ⟨k1, k2⟩ := (HX2.out.keep hb).cs; obtain ⟨k3, k4⟩ := (HY2.out.keep hb).cs; obtain ⟨k5, k6⟩ := (HZ2.out.keep hb).cs; obtain ⟨k7, k8⟩ := (HU2.out.keep hb).cs; simp only at k1 k2 k3 k4 k5 k6 k7 k8;  cases f1 <;> (simp [edgeSat, Region.binds, Fact.at_] at he;  unfold locRun; go_simp; try exact loc_val))
  refine wpLoc_det (if f1 then undef else .bool f2) (fun vs W hb he => ?_) ?_
  · (rw [HF2.out]; cases f1 <;> (simp [edgeSat, Region.binds, Fact.at_] at he;  unfold locRun; go_simp; try exact loc_eq2 cx dx cy dy))
  refine wpLoc_det (.bool (f1 || f2)) (fun vs W hb he => ?_) ?_
  · (cases f1 <;> (simp [edgeSat, Region.binds, Fact.at_] at he;  unfold locRun; go_simp; exact loc_val))
  refine wpLoc_nil fun vs4 W4 hb he => ?_
  simp only [List.nil_append, List.cons_append, factsAll, Fact.at_, Nat.reduceAdd] at he
  obtain ⟨-, -, -, -, -, -, -, g7, -⟩ := he
  rw [g7]
  have HB4 := Aside0.mk (below_call HB2.out hb)
  have HX4 := Aside0.mk (HX2.out.keep hb)
  have HY4 := Aside0.mk (HY2.out.keep hb)
  have HZ4 := Aside0.mk (HZ2.out.keep hb)
  have HU4 := Aside0.mk (HU2.out.keep hb)
  clear g7 hb HB2 HX2 HY2 HZ2 HU2
  generalize (f1 || f2) = d at HD
  clear HF1 HF2 f1 f2
  cases d
  · obtain ⟨k1, k2⟩ := HX4.out.cs
    obtain ⟨k3, k4⟩ := HY4.out.cs
    obtain ⟨k5, k6⟩ := HZ4.out.cs
    obtain ⟨k7, k8⟩ := HU4.out.cs
    simp only at k1 k2 k3 k4 k5 k6 k7 k8
    cases nx <;> cases ls
    all_goals go_wp2_with (go_at_call 128; refine (MT.out _).mono ?_; rintro e w3 ⟨rfl, hB⟩; have HB3 := Aside0.mk (below_call HB4.out hB); clear hB)
    all_goals go_ret
    all_goals exact ⟨bool_ret (by rw [HD.out]; rfl), HB3.out⟩
  · go_wp2
    go_ret
    exact ⟨bool_ret (by rw [HD.out]; rfl), HB4.out⟩
end Go.Proofs.YtgabpbnndikheaaDoor

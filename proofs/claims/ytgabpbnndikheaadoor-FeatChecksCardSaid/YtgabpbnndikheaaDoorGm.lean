import Derived.Test.YtgabpbnndikheaaDoorGl
import Derived.Test.YtgabpbnndikheaaDoorGj
set_option linter.constructorNameAsVariable false
/-! Areas: the side of an edge. -/
namespace Go.Proofs.YtgabpbnndikheaaDoor
open Go.RowKit Go.Proofs.YtgabpbnndikheaaDoorW.PrintWords

def crossAt (p c d : Pt) : Int := wrap64 (wrap64 (wrap64 (d.x - c.x) * wrap64 (p.y - wrap64 (2 * c.y))) - wrap64 (wrap64 (d.y - c.y) * wrap64 (p.x - wrap64 (2 * c.x))))
def sideIn (p c d : Pt) (n : Int) : Int := if decide (wrap64 (2 * c.y) < p.y) && decide (p.y ≤ wrap64 (2 * d.y)) && decide (0 < crossAt p c d) then -n else n
def sideStep (p c d : Pt) (n : Int) : Int := if d.y < c.y then sideIn p d c n else sideIn p c d n
def mid (r : List Pt) (i : Nat) : Pt := ⟨wrap64 ((pt r i).x + (pt r ((i + 1) % r.length)).x), wrap64 ((pt r i).y + (pt r ((i + 1) % r.length)).y)⟩
def sideUpto (p : Pt) (s : List Pt) : Nat → Int
  | 0 => -1
  | k + 1 => sideStep p (pt s k) (pt s ((k + 1) % s.length)) (sideUpto p s k)
def side (r : List Pt) (i : Nat) (s : List Pt) : Int := sideUpto (mid r i) s s.length
theorem sideIn_or {p c d : Pt} {n : Int} (h : n = 1 ∨ n = -1) : sideIn p c d n = 1 ∨ sideIn p c d n = -1 := by
  unfold sideIn
  split <;> omega
theorem sideStep_or {p c d : Pt} {n : Int} (h : n = 1 ∨ n = -1) : sideStep p c d n = 1 ∨ sideStep p c d n = -1 := by
  unfold sideStep
  split <;> exact sideIn_or h
theorem i64_w (n : Int) : IntKind.i64.wrap n = wrap64 n := by unfold wrap64; exact IntKind.wrap_i64 n
theorem ptAt {w : World} {ad : Addr} {r : List Pt} (h : RdP w (some ad) r) {i : Nat} (hi : i < r.length) :
    ∀ W, Below w.heap.size w W → W.cell? (ad.add (i * 2)) = some (.int .i64 (pt r i).x) ∧ W.cell? ⟨(ad.add (i * 2)).block, (ad.add (i * 2)).off + 1, none⟩ = some (.int .i64 (pt r i).y) := fun W hW => by
  obtain ⟨_, e0, k1, k2⟩ := (h.keep hW).pt hi
  injection e0 with e0
  subst e0
  exact ⟨k1, k2⟩
theorem wpList_set {P : Program} {ops : Array Oper} {Q : Exit → Act → World → Prop} {a : Act} {W : World} {b : Nat} {u v : Value} (l : List Oper)
    (h : ∀ W1, W1 = (W.setCell ⟨b, 0, none⟩ u).setCell ⟨b, 1, none⟩ v → wpList P ops Q l a W1) : wpList P ops Q l a ((W.setCell ⟨b, 0, none⟩ u).setCell ⟨b, 1, none⟩ v) := h _ rfl
set_option maxHeartbeats 8000000 in
set_option maxRecDepth 100000 in
theorem side_any (r s : List Pt) (A A' : Option Addr) (c c' i : Nat) (w : World) (h : RdP w A r) (hl : r.length ≤ 140737488355328) (h' : RdP w A' s) (hl' : s.length ≤ 140737488355328) (hi : i < r.length) :
    Calls Tryd.prog 129 #[.slice A r.length c, .int .i64 i, .slice A' s.length c'] w fun e w' => e = .returned (.int .i64 (side r i s)) ∧ Below w.heap.size w w' := by
  obtain ⟨R, hR⟩ : ∃ R, R = side r i s := ⟨_, rfl⟩
  rw [← hR]
  unfold side mid at hR
  obtain ⟨i', hie⟩ : ∃ i', i' = (i + 1) % r.length := ⟨_, rfl⟩
  rw [← hie] at hR
  have hi' : i' < r.length := by rw [hie]; exact Nat.mod_lt _ (by omega)
  have n7 : ((i : Int) + 1).tmod (r.length : Int) = (i' : Int) := by rw [hie, Int.tmod_eq_emod_of_nonneg (by omega)]; push_cast; rfl
  obtain ⟨ad, rfl, -⟩ := h.pt hi
  have HRA := Aside0.mk (ptAt h hi)
  have HRB := Aside0.mk (ptAt h hi')
  have HS := Aside0.mk h'
  clear h h' hie
  have n1 : (i : Int) < (r.length : Int) := by omega
  have n2 : (i' : Int) < (r.length : Int) := by omega
  have n3 : IntKind.i64.wrap ((i : Int) + 1) = (i : Int) + 1 := by rw [IntKind.wrap_i64]; omega
  have n5 : r ≠ [] := by intro e; subst e; simp at hi
  generalize pt r i = pa at *
  generalize pt r i' = pb at *
  obtain ⟨ax, ay⟩ := pa
  obtain ⟨bx, b_y⟩ := pb
  simp only at HRA HRB hR
  obtain ⟨mx, hmx⟩ : ∃ mx, mx = wrap64 (ax + bx) := ⟨_, rfl⟩
  obtain ⟨my, hmy⟩ : ∃ my, my = wrap64 (ay + b_y) := ⟨_, rfl⟩
  rw [← hmx, ← hmy] at hR
  have HD := Aside0.mk hR
  clear hR
  go_enter Tryd.func129, Tryd.ntmps129
  go_wp2_with fail
  refine wp_region_mem [_, _, _, _, _, _, _, _, _, _, _, _, _, _, _, _] rfl (by kernel_rfl) (by kernel_rfl) (by kernel_rfl) (fun xs => by simp only [fill, Act.put, List.setIfInBounds_toArray, List.set_cons_zero, List.set_cons_succ, Nat.reduceAdd]; rfl) ?_
  iterate 12 (apply wpLocM_det; · (intro vs W hb he; obtain ⟨k1, k2⟩ := HRA.out W hb; obtain ⟨k3, k4⟩ := HRB.out W hb; simp [edgeM, Region.binds, Fact.at_] at he; unfold locRun; go_simp; first | exact loc_val ))
  iterate 2 (apply wpLocM_new (.cells #[.int .i64 0, .int .i64 0] 73 (0, 0)); · (intro vs W hb he; refine ⟨by rfl, ?_⟩; go_simp; done))
  apply wpLocM_store 12 3 (.cells #[.int .i64 0, .int .i64 0] 73 (0, 0)) (.cells #[.int .i64 ax, .int .i64 ay] 73 (0, 0)) (.agg #[.int .i64 ax, .int .i64 ay]) (by kernel_rfl) (by kernel_rfl) (by kernel_rfl) (by kernel_rfl) rfl rfl
  · intro vs W g hg hv hge hcur
    obtain ⟨k1, k2⟩ := (show BoxP W g ⟨0, 0⟩ from hcur).cs
    have k3 := (show BoxP W g ⟨0, 0⟩ from hcur).fr
    simp only at k1 k2
    refine ⟨_, ?_, put_box (x := ⟨0, 0⟩) hge hcur ax ay⟩
    go_simp
    done
  apply wpLocM_store 13 11 (.cells #[.int .i64 0, .int .i64 0] 73 (0, 0)) (.cells #[.int .i64 bx, .int .i64 b_y] 73 (0, 0)) (.agg #[.int .i64 bx, .int .i64 b_y]) (by kernel_rfl) (by kernel_rfl) (by kernel_rfl) (by kernel_rfl) rfl rfl
  · intro vs W g hg hv hge hcur
    obtain ⟨k1, k2⟩ := (show BoxP W g ⟨0, 0⟩ from hcur).cs
    have k3 := (show BoxP W g ⟨0, 0⟩ from hcur).fr
    simp only at k1 k2
    refine ⟨_, ?_, put_box (x := ⟨0, 0⟩) hge hcur bx b_y⟩
    go_simp
    done
  refine wpLocM_nil (by kernel_rfl) fun vs W hb he hap => ?_
  simp only [List.nil_append, List.cons_append, factsM, Nat.reduceAdd] at he
  obtain ⟨-, -, -, -, -, -, -, -, -, -, -, -, ⟨g1, e0, l0⟩, ⟨g2, e1, l1⟩, ⟨_, f0, B0⟩, ⟨_, f1, B1⟩, -⟩ := he
  rw [ptrTo_inj e0 f0] at B0
  rw [ptrTo_inj e1 f1] at B1
  clear f0 f1 hap l0 l1
  rw [e0, e1]
  obtain ⟨k1, k2⟩ := (show BoxP W g1 ⟨ax, ay⟩ from B0).cs
  obtain ⟨k3, k4⟩ := (show BoxP W g2 ⟨bx, b_y⟩ from B1).cs
  simp only at k1 k2 k3 k4
  have HB0 := Aside0.mk hb
  simp only [ptrTo]
  clear B0 B1 e0 e1 hb HRA HRB n1 n2 n3 n5 n7
  have hmx' := hmx.symm
  have hmy' := hmy.symm
  clear hmx hmy
  go_wp2
  obtain ⟨W1, e1⟩ : ∃ W1, W1 = W.alloc (.cells #[.int .i64 mx, .int .i64 my] 73) := ⟨_, rfl⟩
  have HP := Aside0.mk (e1 ▸ boxP_alloc W ⟨mx, my⟩ : BoxP W1 W.heap.size ⟨mx, my⟩)
  have HB1 := Aside0.mk (e1 ▸ below_call HB0.out (below_alloc' (Below.refl _ _) _) : Below w.heap.size w W1)
  rw [← e1]
  generalize W.heap.size = gp at *
  clear e1 HB0 k1 k2 k3 k4 hmx' hmy'
  go_loopw [40, 10] (fun u v wr => ∃ k : Nat, u = .int .i64 k ∧ v = .int .i64 (sideUpto ⟨mx, my⟩ s k) ∧ k ≤ s.length ∧ Aside0 (sideUpto ⟨mx, my⟩ s k = 1 ∨ sideUpto ⟨mx, my⟩ s k = -1) ∧ Aside0 (Below W1.heap.size W1 wr)) (fun u _ _ => s.length - (intOf u).toNat)
  case atStart => exact ⟨0, rfl, rfl, Nat.zero_le _, ⟨.inr rfl⟩, ⟨Below.refl _ _⟩⟩
  case round =>
    obtain ⟨k, rfl, rfl, hk0, HO, HB2⟩ := hrel
    by_cases hk : k < s.length
    · have hd : decide ((k : Int) < (s.length : Int)) = true := by simp; omega
      have HU := Aside0.mk (show sideUpto ⟨mx, my⟩ s (k + 1) = sideStep ⟨mx, my⟩ (pt s k) (pt s ((k + 1) % s.length)) (sideUpto ⟨mx, my⟩ s k) from rfl)
      obtain ⟨n', hn'⟩ : ∃ n', n' = sideUpto ⟨mx, my⟩ s (k + 1) := ⟨_, rfl⟩
      rw [← hn'] at HU
      have HN' := Aside0.mk hn'
      clear hn'
      obtain ⟨k', hke⟩ : ∃ k', k' = (k + 1) % s.length := ⟨_, rfl⟩
      rw [← hke] at HU
      generalize sideUpto ⟨mx, my⟩ s k = n at *
      have hk' : k' < s.length := by rw [hke]; exact Nat.mod_lt _ (by omega)
      have n7 : ((k : Int) + 1).tmod (s.length : Int) = (k' : Int) := by rw [hke, Int.tmod_eq_emod_of_nonneg (by omega)]; push_cast; rfl
      have HSr := Aside0.mk (HS.out.keep (below_call HB1.out HB2.out))
      obtain ⟨ad, rfl, -⟩ := HSr.out.pt hk
      have HRA := Aside0.mk (ptAt HSr.out hk)
      have HRB := Aside0.mk (ptAt HSr.out hk')
      clear HSr hke
      have n1 : (k : Int) < (s.length : Int) := by omega
      have n2 : (k' : Int) < (s.length : Int) := by omega
      have n3 : IntKind.i64.wrap ((k : Int) + 1) = (k : Int) + 1 := by rw [IntKind.wrap_i64]; omega
      have n3' : wrap64 ((k : Int) + 1) = (k : Int) + 1 := by rw [← i64_w]; exact n3
      have n5 : s ≠ [] := by intro e; subst e; simp at hk
      generalize pt s k = pa at *
      generalize pt s k' = pb at *
      obtain ⟨ax, ay⟩ := pa
      obtain ⟨bx, b_y⟩ := pb
      simp only at HRA HRB
      go_wp2_with fail
      refine wp_region_mem [_, _, _, _, _, _, _, _, _, _, _, _, _, _, _, _] rfl (by kernel_rfl) (by kernel_rfl) (by kernel_rfl) (fun xs => by simp only [fill, Act.put, List.setIfInBounds_toArray, List.set_cons_zero, List.set_cons_succ, Nat.reduceAdd]; rfl) ?_
      iterate 12 (apply wpLocM_det; · (intro vs W hb he; obtain ⟨k1, k2⟩ := HRA.out W hb; obtain ⟨k3, k4⟩ := HRB.out W hb; simp [edgeM, Region.binds, Fact.at_] at he; unfold locRun; go_simp; first | exact loc_val ))
      iterate 2 (apply wpLocM_new (.cells #[.int .i64 0, .int .i64 0] 73 (0, 0)); · (intro vs W hb he; refine ⟨by rfl, ?_⟩; go_simp; done))
      apply wpLocM_store 12 3 (.cells #[.int .i64 0, .int .i64 0] 73 (0, 0)) (.cells #[.int .i64 ax, .int .i64 ay] 73 (0, 0)) (.agg #[.int .i64 ax, .int .i64 ay]) (by kernel_rfl) (by kernel_rfl) (by kernel_rfl) (by kernel_rfl) rfl rfl
      · intro vs W g hg hv hge hcur
        obtain ⟨k1, k2⟩ := (show BoxP W g ⟨0, 0⟩ from hcur).cs
        have k3 := (show BoxP W g ⟨0, 0⟩ from hcur).fr
        simp only at k1 k2
        refine ⟨_, ?_, put_box (x := ⟨0, 0⟩) hge hcur ax ay⟩
        go_simp
        done
      apply wpLocM_store 13 11 (.cells #[.int .i64 0, .int .i64 0] 73 (0, 0)) (.cells #[.int .i64 bx, .int .i64 b_y] 73 (0, 0)) (.agg #[.int .i64 bx, .int .i64 b_y]) (by kernel_rfl) (by kernel_rfl) (by kernel_rfl) (by kernel_rfl) rfl rfl
      · intro vs W g hg hv hge hcur
        obtain ⟨k1, k2⟩ := (show BoxP W g ⟨0, 0⟩ from hcur).cs
        have k3 := (show BoxP W g ⟨0, 0⟩ from hcur).fr
        simp only at k1 k2
        refine ⟨_, ?_, put_box (x := ⟨0, 0⟩) hge hcur bx b_y⟩
        go_simp
        done
      refine wpLocM_nil (by kernel_rfl) fun vs W hb he hap => ?_
      simp only [List.nil_append, List.cons_append, factsM, Nat.reduceAdd] at he
      obtain ⟨-, -, -, -, -, -, -, -, -, -, -, -, ⟨g1, e0, l0⟩, ⟨g2, e1, l1⟩, ⟨_, f0, B0⟩, ⟨_, f1, B1⟩, -⟩ := he
      rw [ptrTo_inj e0 f0] at B0
      rw [ptrTo_inj e1 f1] at B1
      have hne : g1 ≠ g2 := (show Apart [12, 13] vs from hap).ne (by decide) (by decide) (by decide : 12 ≠ 13) e0 e1
      rw [e0, e1]
      have HX := Aside0.mk (show BoxP W g1 ⟨ax, ay⟩ from B0)
      have HY := Aside0.mk (show BoxP W g2 ⟨bx, b_y⟩ from B1)
      have HB3 := Aside0.mk (HB2.out.trans (hb.mono HB2.out.size))
      have HP3 := Aside0.mk (HP.out.keep HB3.out)
      have hlt := HP.out.lt
      have hs := HB2.out.size
      have hp1 : gp ≠ g1 := by omega
      have hp2 : gp ≠ g2 := by omega
      have L1 := Nat.le_trans hs l0
      have L2 := Nat.le_trans hs l1
      simp only [ptrTo]
      clear B0 B1 e0 e1 hb HRA HRB n1 n2 n3 n5 n7 f0 f1 hap hlt hs l0 l1 HB2
      have hneg : wrap64 (-n) = -n := by rcases HO.out with e | e <;> exact wrap64_id (by omega) (by omega)
      have hneg' : IntKind.i64.wrap (-n) = -n := by rw [i64_w]; exact hneg
      have HO' := Aside0.mk (HU.out ▸ sideStep_or HO.out : n' = 1 ∨ n' = -1)
      by_cases hsw : b_y < ay
      · have hU := HU.out
        unfold sideStep at hU
        simp only at hU
        rw [if_pos hsw] at hU
        unfold sideIn crossAt at hU
        simp only at hU
        obtain ⟨C2, hq0⟩ : ∃ C2, C2 = wrap64 (2 * b_y) := ⟨_, rfl⟩
        rw [← hq0] at hU
        have q0 := hq0.symm
        clear hq0
        obtain ⟨D2, hq1⟩ : ∃ D2, D2 = wrap64 (2 * ay) := ⟨_, rfl⟩
        rw [← hq1] at hU
        have q1 := hq1.symm
        clear hq1
        obtain ⟨X1, hq2⟩ : ∃ X1, X1 = wrap64 (ax - bx) := ⟨_, rfl⟩
        rw [← hq2] at hU
        have q2 := hq2.symm
        clear hq2
        obtain ⟨X2, hq3⟩ : ∃ X2, X2 = wrap64 (my - C2) := ⟨_, rfl⟩
        rw [← hq3] at hU
        have q3 := hq3.symm
        clear hq3
        obtain ⟨X3, hq4⟩ : ∃ X3, X3 = wrap64 (X1 * X2) := ⟨_, rfl⟩
        rw [← hq4] at hU
        have q4 := hq4.symm
        clear hq4
        obtain ⟨X4, hq5⟩ : ∃ X4, X4 = wrap64 (ay - b_y) := ⟨_, rfl⟩
        rw [← hq5] at hU
        have q5 := hq5.symm
        clear hq5
        obtain ⟨C3, hq6⟩ : ∃ C3, C3 = wrap64 (2 * bx) := ⟨_, rfl⟩
        rw [← hq6] at hU
        have q6 := hq6.symm
        clear hq6
        obtain ⟨X5, hq7⟩ : ∃ X5, X5 = wrap64 (mx - C3) := ⟨_, rfl⟩
        rw [← hq7] at hU
        have q7 := hq7.symm
        clear hq7
        obtain ⟨X6, hq8⟩ : ∃ X6, X6 = wrap64 (X4 * X5) := ⟨_, rfl⟩
        rw [← hq8] at hU
        have q8 := hq8.symm
        clear hq8
        obtain ⟨CR, hq9⟩ : ∃ CR, CR = wrap64 (X3 - X6) := ⟨_, rfl⟩
        rw [← hq9] at hU
        have q9 := hq9.symm
        clear hq9
        have z0 : IntKind.i64.wrap (2 * b_y) = C2 := by rw [i64_w]; exact q0
        clear q0
        have z1 : IntKind.i64.wrap (2 * ay) = D2 := by rw [i64_w]; exact q1
        clear q1
        have z2 : IntKind.i64.wrap (ax - bx) = X1 := by rw [i64_w]; exact q2
        clear q2
        have z3 : IntKind.i64.wrap (my - C2) = X2 := by rw [i64_w]; exact q3
        clear q3
        have z4 : IntKind.i64.wrap (X1 * X2) = X3 := by rw [i64_w]; exact q4
        clear q4
        have z5 : IntKind.i64.wrap (ay - b_y) = X4 := by rw [i64_w]; exact q5
        clear q5
        have z6 : IntKind.i64.wrap (2 * bx) = C3 := by rw [i64_w]; exact q6
        clear q6
        have z7 : IntKind.i64.wrap (mx - C3) = X5 := by rw [i64_w]; exact q7
        clear q7
        have z8 : IntKind.i64.wrap (X4 * X5) = X6 := by rw [i64_w]; exact q8
        clear q8
        have z9 : IntKind.i64.wrap (X3 - X6) = CR := by rw [i64_w]; exact q9
        clear q9
        obtain ⟨b1, hb0⟩ : ∃ b1, b1 = decide (C2 < my) := ⟨_, rfl⟩
        rw [← hb0] at hU
        have d0 := hb0.symm
        clear hb0
        obtain ⟨b2, hb1⟩ : ∃ b2, b2 = decide (my ≤ D2) := ⟨_, rfl⟩
        rw [← hb1] at hU
        have d1 := hb1.symm
        clear hb1
        obtain ⟨b3, hb2⟩ : ∃ b3, b3 = decide (0 < CR) := ⟨_, rfl⟩
        rw [← hb2] at hU
        have d2 := hb2.symm
        clear hb2
        obtain ⟨g3, hg3⟩ : ∃ g3, g3 = (b1 && b2) := ⟨_, rfl⟩
        obtain ⟨g4, hg4⟩ : ∃ g4, g4 = (g3 && b3) := ⟨_, rfl⟩
        rw [← hg3, ← hg4] at hU
        have HG3 := Aside0.mk hg3
        have HG4 := Aside0.mk hg4
        have HUU := Aside0.mk hU
        clear hg3 hg4 hU HU
        obtain ⟨k1, k2⟩ := HX.out.cs
        obtain ⟨k3, k4⟩ := HY.out.cs
        have k7 := HX.out.fr
        have k8 := HY.out.fr
        simp only at k1 k2 k3 k4
        go_wp2_with (first
          | ((with_reducible refine wpList_gate [_] ?_); have ck := HX; clear ck; refine wpList_set [_] ?_; intro W3 e3; have HX3 := (Aside0.mk (by rw [e3]; exact HX.out.set bx b_y) : Aside0 (BoxP W3 g1 ⟨bx, b_y⟩)); have HY3 := (Aside0.mk (by rw [e3]; exact HY.out.far (fun e => hne e.symm) bx b_y) : Aside0 (BoxP W3 g2 ⟨bx, b_y⟩)); have HP3b := (Aside0.mk (by rw [e3]; exact HP3.out.far hp1 bx b_y) : Aside0 (BoxP W3 gp ⟨mx, my⟩)); have HB3b := (Aside0.mk (by rw [e3]; exact below_set2 HB3.out L1 bx b_y) : Aside0 (Below W1.heap.size W1 W3)); clear e3 k1 k2 k3 k4 k7 k8 HX HY HP3 HB3; obtain ⟨k1, k2⟩ := HX3.out.cs; obtain ⟨k3, k4⟩ := HY3.out.cs; have k8 := HY3.out.fr; simp only at k1 k2 k3 k4)
          | ((with_reducible refine wpList_gate [_, _, _, _, _, _, _, _, _, _, _, _, _, _, _, _, _, _, _, _, _, _, _, _, _, _] ?_); have ck := HX4; clear ck; (with_reducible refine wpList_gate [_, _, _, _, _, _, _, _, _, _, _, _, _, _, _, _, _, _, _, _, _, _, _, _, _, _] ?_); refine wpList_row [_, _, _, _, _, _, _, _, _, _, _, _, _, _, _, _, _, _, _, _, _, _, _, _, _, _] rfl (by kernel_rfl) (by kernel_rfl) (fun xs => by simp only [fill, Act.put, List.setIfInBounds_toArray, List.set_cons_zero, List.set_cons_succ, Nat.reduceAdd]; rfl) ?_; refine wpLoc_det (.pointer (some ⟨g2, 0, none⟩)) (fun vs W hb he => ?_) ?_; (simp [edgeSat, Region.binds, Fact.at_] at he; unfold locRun; go_simp; exact loc_val); refine wpLoc_det (.int .i64 ax) (fun vs W hb he => ?_) ?_; (obtain ⟨k1, k2⟩ := (HX4.out.keep hb).cs; obtain ⟨k3, k4⟩ := (HY4.out.keep hb).cs; obtain ⟨k5, k6⟩ := (HP4.out.keep hb).cs; simp only at k1 k2 k3 k4 k5 k6; simp [edgeSat, Region.binds, Fact.at_] at he; unfold locRun; go_simp; exact loc_val); refine wpLoc_det (.pointer (some ⟨g1, 0, none⟩)) (fun vs W hb he => ?_) ?_; (simp [edgeSat, Region.binds, Fact.at_] at he; unfold locRun; go_simp; exact loc_val); refine wpLoc_det (.int .i64 bx) (fun vs W hb he => ?_) ?_; (obtain ⟨k1, k2⟩ := (HX4.out.keep hb).cs; obtain ⟨k3, k4⟩ := (HY4.out.keep hb).cs; obtain ⟨k5, k6⟩ := (HP4.out.keep hb).cs; simp only at k1 k2 k3 k4 k5 k6; simp [edgeSat, Region.binds, Fact.at_] at he; unfold locRun; go_simp; exact loc_val); refine wpLoc_det (.int .i64 X1) (fun vs W hb he => ?_) ?_; (simp [edgeSat, Region.binds, Fact.at_] at he; unfold locRun; go_simp; exact loc_val); refine wpLoc_det (.pointer (some ⟨gp, 1, none⟩)) (fun vs W hb he => ?_) ?_; (simp [edgeSat, Region.binds, Fact.at_] at he; unfold locRun; go_simp; exact loc_val); refine wpLoc_det (.int .i64 my) (fun vs W hb he => ?_) ?_; (obtain ⟨k1, k2⟩ := (HX4.out.keep hb).cs; obtain ⟨k3, k4⟩ := (HY4.out.keep hb).cs; obtain ⟨k5, k6⟩ := (HP4.out.keep hb).cs; simp only at k1 k2 k3 k4 k5 k6; simp [edgeSat, Region.binds, Fact.at_] at he; unfold locRun; go_simp; exact loc_val); refine wpLoc_det (.pointer (some ⟨g1, 1, none⟩)) (fun vs W hb he => ?_) ?_; (simp [edgeSat, Region.binds, Fact.at_] at he; unfold locRun; go_simp; exact loc_val); refine wpLoc_det (.int .i64 b_y) (fun vs W hb he => ?_) ?_; (obtain ⟨k1, k2⟩ := (HX4.out.keep hb).cs; obtain ⟨k3, k4⟩ := (HY4.out.keep hb).cs; obtain ⟨k5, k6⟩ := (HP4.out.keep hb).cs; simp only at k1 k2 k3 k4 k5 k6; simp [edgeSat, Region.binds, Fact.at_] at he; unfold locRun; go_simp; exact loc_val); refine wpLoc_det (.int .i64 C2) (fun vs W hb he => ?_) ?_; (simp [edgeSat, Region.binds, Fact.at_] at he; unfold locRun; go_simp; exact loc_val); refine wpLoc_det (.int .i64 X2) (fun vs W hb he => ?_) ?_; (simp [edgeSat, Region.binds, Fact.at_] at he; unfold locRun; go_simp; exact loc_val); refine wpLoc_det (.int .i64 X3) (fun vs W hb he => ?_) ?_; (simp [edgeSat, Region.binds, Fact.at_] at he; unfold locRun; go_simp; exact loc_val); refine wpLoc_det (.pointer (some ⟨g2, 1, none⟩)) (fun vs W hb he => ?_) ?_; (simp [edgeSat, Region.binds, Fact.at_] at he; unfold locRun; go_simp; exact loc_val); refine wpLoc_det (.int .i64 ay) (fun vs W hb he => ?_) ?_; (obtain ⟨k1, k2⟩ := (HX4.out.keep hb).cs; obtain ⟨k3, k4⟩ := (HY4.out.keep hb).cs; obtain ⟨k5, k6⟩ := (HP4.out.keep hb).cs; simp only at k1 k2 k3 k4 k5 k6; simp [edgeSat, Region.binds, Fact.at_] at he; unfold locRun; go_simp; exact loc_val); refine wpLoc_det (.pointer (some ⟨g1, 1, none⟩)) (fun vs W hb he => ?_) ?_; (simp [edgeSat, Region.binds, Fact.at_] at he; unfold locRun; go_simp; exact loc_val); refine wpLoc_det (.int .i64 b_y) (fun vs W hb he => ?_) ?_; (obtain ⟨k1, k2⟩ := (HX4.out.keep hb).cs; obtain ⟨k3, k4⟩ := (HY4.out.keep hb).cs; obtain ⟨k5, k6⟩ := (HP4.out.keep hb).cs; simp only at k1 k2 k3 k4 k5 k6; simp [edgeSat, Region.binds, Fact.at_] at he; unfold locRun; go_simp; exact loc_val); refine wpLoc_det (.int .i64 X4) (fun vs W hb he => ?_) ?_; (simp [edgeSat, Region.binds, Fact.at_] at he; unfold locRun; go_simp; exact loc_val); refine wpLoc_det (.pointer (some ⟨gp, 0, none⟩)) (fun vs W hb he => ?_) ?_; (simp [edgeSat, Region.binds, Fact.at_] at he; unfold locRun; go_simp; exact loc_val); refine wpLoc_det (.int .i64 mx) (fun vs W hb he => ?_) ?_; (obtain ⟨k1, k2⟩ := (HX4.out.keep hb).cs; obtain ⟨k3, k4⟩ := (HY4.out.keep hb).cs; obtain ⟨k5, k6⟩ := (HP4.out.keep hb).cs; simp only at k1 k2 k3 k4 k5 k6; simp [edgeSat, Region.binds, Fact.at_] at he; unfold locRun; go_simp; exact loc_val); refine wpLoc_det (.pointer (some ⟨g1, 0, none⟩)) (fun vs W hb he => ?_) ?_; (simp [edgeSat, Region.binds, Fact.at_] at he; unfold locRun; go_simp; exact loc_val); refine wpLoc_det (.int .i64 bx) (fun vs W hb he => ?_) ?_; (obtain ⟨k1, k2⟩ := (HX4.out.keep hb).cs; obtain ⟨k3, k4⟩ := (HY4.out.keep hb).cs; obtain ⟨k5, k6⟩ := (HP4.out.keep hb).cs; simp only at k1 k2 k3 k4 k5 k6; simp [edgeSat, Region.binds, Fact.at_] at he; unfold locRun; go_simp; exact loc_val); refine wpLoc_det (.int .i64 C3) (fun vs W hb he => ?_) ?_; (simp [edgeSat, Region.binds, Fact.at_] at he; unfold locRun; go_simp; exact loc_val); refine wpLoc_det (.int .i64 X5) (fun vs W hb he => ?_) ?_; (simp [edgeSat, Region.binds, Fact.at_] at he; unfold locRun; go_simp; exact loc_val); refine wpLoc_det (.int .i64 X6) (fun vs W hb he => ?_) ?_; (simp [edgeSat, Region.binds, Fact.at_] at he; unfold locRun; go_simp; exact loc_val); refine wpLoc_det (.int .i64 CR) (fun vs W hb he => ?_) ?_; (simp [edgeSat, Region.binds, Fact.at_] at he; unfold locRun; go_simp; exact loc_val); refine wpLoc_det (.int .i64 CR) (fun vs W hb he => ?_) ?_; (simp [edgeSat, Region.binds, Fact.at_] at he; unfold locRun; go_simp; exact loc_val); refine wpLoc_nil fun vs W hb he => ?_; simp only [List.nil_append, List.cons_append, factsAll, Fact.at_, Nat.reduceAdd] at he; obtain ⟨-, -, -, -, -, -, -, -, -, -, -, -, -, -, -, -, -, -, -, -, -, -, -, -, -, e25, -⟩ := he; rw [e25]; have HX5 := Aside0.mk (HX4.out.keep hb); have HY5 := Aside0.mk (HY4.out.keep hb); have HP5 := Aside0.mk (HP4.out.keep hb); have HB5 := Aside0.mk (HB4.out.trans (hb.mono HB4.out.size)); clear e25 hb HX4 HY4 HP4 HB4)
          | ((with_reducible refine wpList_gate [_, _, _, _, _, _, _, _, _, _, _, _, _, _, _, _, _, _, _, _, _, _, _, _, _, _] ?_); have ck := HX3; clear ck; refine wpList_set [_, _, _, _, _, _, _, _, _, _, _, _, _, _, _, _, _, _, _, _, _, _, _, _, _, _] ?_; intro W4 e4; have HX4 := (Aside0.mk (by rw [e4]; exact HX3.out.far hne ax ay) : Aside0 (BoxP W4 g1 ⟨bx, b_y⟩)); have HY4 := (Aside0.mk (by rw [e4]; exact HY3.out.set ax ay) : Aside0 (BoxP W4 g2 ⟨ax, ay⟩)); have HP4 := (Aside0.mk (by rw [e4]; exact HP3b.out.far hp2 ax ay) : Aside0 (BoxP W4 gp ⟨mx, my⟩)); have HB4 := (Aside0.mk (by rw [e4]; exact below_set2 HB3b.out L2 ax ay) : Aside0 (Below W1.heap.size W1 W4)); clear e4 k1 k2 k3 k4 k8 HX3 HY3 HP3b HB3b; obtain ⟨k1, k2⟩ := HX4.out.cs; obtain ⟨k3, k4⟩ := HY4.out.cs; obtain ⟨k5, k6⟩ := HP4.out.cs; simp only at k1 k2 k3 k4 k5 k6)
          | ((with_reducible refine wpList_gate [_, _, _, _, _, _, _, _, _, _, _, _, _, _, _, _, _, _] ?_); refine wpList_row [_, _, _, _, _, _, _, _, _, _, _, _, _, _, _, _, _, _] rfl (by kernel_rfl) (by kernel_rfl) (fun xs => by simp only [fill, Act.put, List.setIfInBounds_toArray, List.set_cons_zero, List.set_cons_succ, Nat.reduceAdd]; rfl) ?_; refine wpLoc_det (.pointer (some ⟨g1, 1, none⟩)) (fun vs W hb he => ?_) ?_; (simp [edgeSat, Region.binds, Fact.at_] at he; unfold locRun; go_simp; exact loc_val); refine wpLoc_det (.int .i64 b_y) (fun vs W hb he => ?_) ?_; (obtain ⟨k1, k2⟩ := (HX5.out.keep hb).cs; obtain ⟨k3, k4⟩ := (HY5.out.keep hb).cs; obtain ⟨k5, k6⟩ := (HP5.out.keep hb).cs; simp only at k1 k2 k3 k4 k5 k6; simp [edgeSat, Region.binds, Fact.at_] at he; unfold locRun; go_simp; exact loc_val); refine wpLoc_det (.int .i64 C2) (fun vs W hb he => ?_) ?_; (simp [edgeSat, Region.binds, Fact.at_] at he; unfold locRun; go_simp; exact loc_val); refine wpLoc_det (.pointer (some ⟨gp, 1, none⟩)) (fun vs W hb he => ?_) ?_; (simp [edgeSat, Region.binds, Fact.at_] at he; unfold locRun; go_simp; exact loc_val); refine wpLoc_det (.int .i64 my) (fun vs W hb he => ?_) ?_; (obtain ⟨k1, k2⟩ := (HX5.out.keep hb).cs; obtain ⟨k3, k4⟩ := (HY5.out.keep hb).cs; obtain ⟨k5, k6⟩ := (HP5.out.keep hb).cs; simp only at k1 k2 k3 k4 k5 k6; simp [edgeSat, Region.binds, Fact.at_] at he; unfold locRun; go_simp; exact loc_val); refine wpLoc_det (.bool b1) (fun vs W hb he => ?_) ?_; (simp [edgeSat, Region.binds, Fact.at_] at he; unfold locRun; go_simp; exact loc_val); refine wpLoc_det (.bool b1) (fun vs W hb he => ?_) ?_; (simp [edgeSat, Region.binds, Fact.at_] at he; unfold locRun; go_simp; exact loc_val); refine wpLoc_det (if b1 then .pointer (some ⟨gp, 1, none⟩) else undef) (fun vs W hb he => ?_) ?_; (cases b1 <;> (simp [edgeSat, Region.binds, Fact.at_] at he; unfold locRun; go_simp; try exact loc_val)); refine wpLoc_det (if b1 then .int .i64 my else undef) (fun vs W hb he => ?_) ?_; (obtain ⟨k1, k2⟩ := (HX5.out.keep hb).cs; obtain ⟨k3, k4⟩ := (HY5.out.keep hb).cs; obtain ⟨k5, k6⟩ := (HP5.out.keep hb).cs; simp only at k1 k2 k3 k4 k5 k6; cases b1 <;> (simp [edgeSat, Region.binds, Fact.at_] at he; unfold locRun; go_simp; try exact loc_val)); refine wpLoc_det (if b1 then .pointer (some ⟨g2, 1, none⟩) else undef) (fun vs W hb he => ?_) ?_; (cases b1 <;> (simp [edgeSat, Region.binds, Fact.at_] at he; unfold locRun; go_simp; try exact loc_val)); refine wpLoc_det (if b1 then .int .i64 ay else undef) (fun vs W hb he => ?_) ?_; (obtain ⟨k1, k2⟩ := (HX5.out.keep hb).cs; obtain ⟨k3, k4⟩ := (HY5.out.keep hb).cs; obtain ⟨k5, k6⟩ := (HP5.out.keep hb).cs; simp only at k1 k2 k3 k4 k5 k6; cases b1 <;> (simp [edgeSat, Region.binds, Fact.at_] at he; unfold locRun; go_simp; try exact loc_val)); refine wpLoc_det (if b1 then .int .i64 D2 else undef) (fun vs W hb he => ?_) ?_; (cases b1 <;> (simp [edgeSat, Region.binds, Fact.at_] at he; unfold locRun; go_simp; try exact loc_val)); refine wpLoc_det (if b1 then .bool b2 else undef) (fun vs W hb he => ?_) ?_; (cases b1 <;> (simp [edgeSat, Region.binds, Fact.at_] at he; unfold locRun; go_simp; try exact loc_val)); refine wpLoc_det (.bool g3) (fun vs W hb he => ?_) ?_; (rw [HG3.out]; cases b1 <;> (simp [edgeSat, Region.binds, Fact.at_] at he; unfold locRun; go_simp; exact loc_val)); refine wpLoc_det (.bool g3) (fun vs W hb he => ?_) ?_; (simp [edgeSat, Region.binds, Fact.at_] at he; unfold locRun; go_simp; exact loc_val); refine wpLoc_det (if g3 then .int .i64 CR else undef) (fun vs W hb he => ?_) ?_; (cases g3 <;> (simp [edgeSat, Region.binds, Fact.at_] at he; unfold locRun; go_simp; try exact loc_val)); refine wpLoc_det (if g3 then .bool b3 else undef) (fun vs W hb he => ?_) ?_; (cases g3 <;> (simp [edgeSat, Region.binds, Fact.at_] at he; unfold locRun; go_simp; try exact loc_val)); refine wpLoc_det (.bool g4) (fun vs W hb he => ?_) ?_; (rw [HG4.out]; cases g3 <;> (simp [edgeSat, Region.binds, Fact.at_] at he; unfold locRun; go_simp; exact loc_val)); refine wpLoc_nil fun vs W hb he => ?_; simp only [List.nil_append, List.cons_append, factsAll, Fact.at_, Nat.reduceAdd] at he; obtain ⟨-, -, -, -, -, -, -, -, -, -, -, -, -, -, -, -, -, e17, -⟩ := he; rw [e17]; have HB6 := Aside0.mk (HB5.out.trans (hb.mono HB5.out.size)); clear e17 hb HX5 HY5 HP5 HB5))
        all_goals exact ⟨⟨k + 1, rfl, by rw [← HN'.out, HUU.out]; first | (rw [if_pos (by assumption)]) | (rw [if_neg (by assumption)]) | (rw [if_neg (by rw [‹g4 = false›]; decide)]), by omega, ⟨by rw [← HN'.out]; exact HO'.out⟩, HB6⟩, by simp only [intOf]; omega⟩
      · have hU := HU.out
        unfold sideStep at hU
        simp only at hU
        rw [if_neg hsw] at hU
        unfold sideIn crossAt at hU
        simp only at hU
        obtain ⟨C2, hq0⟩ : ∃ C2, C2 = wrap64 (2 * ay) := ⟨_, rfl⟩
        rw [← hq0] at hU
        have q0 := hq0.symm
        clear hq0
        obtain ⟨D2, hq1⟩ : ∃ D2, D2 = wrap64 (2 * b_y) := ⟨_, rfl⟩
        rw [← hq1] at hU
        have q1 := hq1.symm
        clear hq1
        obtain ⟨X1, hq2⟩ : ∃ X1, X1 = wrap64 (bx - ax) := ⟨_, rfl⟩
        rw [← hq2] at hU
        have q2 := hq2.symm
        clear hq2
        obtain ⟨X2, hq3⟩ : ∃ X2, X2 = wrap64 (my - C2) := ⟨_, rfl⟩
        rw [← hq3] at hU
        have q3 := hq3.symm
        clear hq3
        obtain ⟨X3, hq4⟩ : ∃ X3, X3 = wrap64 (X1 * X2) := ⟨_, rfl⟩
        rw [← hq4] at hU
        have q4 := hq4.symm
        clear hq4
        obtain ⟨X4, hq5⟩ : ∃ X4, X4 = wrap64 (b_y - ay) := ⟨_, rfl⟩
        rw [← hq5] at hU
        have q5 := hq5.symm
        clear hq5
        obtain ⟨C3, hq6⟩ : ∃ C3, C3 = wrap64 (2 * ax) := ⟨_, rfl⟩
        rw [← hq6] at hU
        have q6 := hq6.symm
        clear hq6
        obtain ⟨X5, hq7⟩ : ∃ X5, X5 = wrap64 (mx - C3) := ⟨_, rfl⟩
        rw [← hq7] at hU
        have q7 := hq7.symm
        clear hq7
        obtain ⟨X6, hq8⟩ : ∃ X6, X6 = wrap64 (X4 * X5) := ⟨_, rfl⟩
        rw [← hq8] at hU
        have q8 := hq8.symm
        clear hq8
        obtain ⟨CR, hq9⟩ : ∃ CR, CR = wrap64 (X3 - X6) := ⟨_, rfl⟩
        rw [← hq9] at hU
        have q9 := hq9.symm
        clear hq9
        have z0 : IntKind.i64.wrap (2 * ay) = C2 := by rw [i64_w]; exact q0
        clear q0
        have z1 : IntKind.i64.wrap (2 * b_y) = D2 := by rw [i64_w]; exact q1
        clear q1
        have z2 : IntKind.i64.wrap (bx - ax) = X1 := by rw [i64_w]; exact q2
        clear q2
        have z3 : IntKind.i64.wrap (my - C2) = X2 := by rw [i64_w]; exact q3
        clear q3
        have z4 : IntKind.i64.wrap (X1 * X2) = X3 := by rw [i64_w]; exact q4
        clear q4
        have z5 : IntKind.i64.wrap (b_y - ay) = X4 := by rw [i64_w]; exact q5
        clear q5
        have z6 : IntKind.i64.wrap (2 * ax) = C3 := by rw [i64_w]; exact q6
        clear q6
        have z7 : IntKind.i64.wrap (mx - C3) = X5 := by rw [i64_w]; exact q7
        clear q7
        have z8 : IntKind.i64.wrap (X4 * X5) = X6 := by rw [i64_w]; exact q8
        clear q8
        have z9 : IntKind.i64.wrap (X3 - X6) = CR := by rw [i64_w]; exact q9
        clear q9
        obtain ⟨b1, hb0⟩ : ∃ b1, b1 = decide (C2 < my) := ⟨_, rfl⟩
        rw [← hb0] at hU
        have d0 := hb0.symm
        clear hb0
        obtain ⟨b2, hb1⟩ : ∃ b2, b2 = decide (my ≤ D2) := ⟨_, rfl⟩
        rw [← hb1] at hU
        have d1 := hb1.symm
        clear hb1
        obtain ⟨b3, hb2⟩ : ∃ b3, b3 = decide (0 < CR) := ⟨_, rfl⟩
        rw [← hb2] at hU
        have d2 := hb2.symm
        clear hb2
        obtain ⟨g3, hg3⟩ : ∃ g3, g3 = (b1 && b2) := ⟨_, rfl⟩
        obtain ⟨g4, hg4⟩ : ∃ g4, g4 = (g3 && b3) := ⟨_, rfl⟩
        rw [← hg3, ← hg4] at hU
        have HG3 := Aside0.mk hg3
        have HG4 := Aside0.mk hg4
        have HUU := Aside0.mk hU
        clear hg3 hg4 hU HU
        have HX4 := HX
        have HY4 := HY
        have HP4 := HP3
        have HB4 := HB3
        clear HX HY HP3 HB3
        obtain ⟨k1, k2⟩ := HX4.out.cs
        obtain ⟨k3, k4⟩ := HY4.out.cs
        obtain ⟨k5, k6⟩ := HP4.out.cs
        simp only at k1 k2 k3 k4 k5 k6
        go_wp2_with (first
          | ((with_reducible refine wpList_gate [_, _, _, _, _, _, _, _, _, _, _, _, _, _, _, _, _, _, _, _, _, _, _, _, _, _] ?_); have ck := HX4; clear ck; (with_reducible refine wpList_gate [_, _, _, _, _, _, _, _, _, _, _, _, _, _, _, _, _, _, _, _, _, _, _, _, _, _] ?_); refine wpList_row [_, _, _, _, _, _, _, _, _, _, _, _, _, _, _, _, _, _, _, _, _, _, _, _, _, _] rfl (by kernel_rfl) (by kernel_rfl) (fun xs => by simp only [fill, Act.put, List.setIfInBounds_toArray, List.set_cons_zero, List.set_cons_succ, Nat.reduceAdd]; rfl) ?_; refine wpLoc_det (.pointer (some ⟨g2, 0, none⟩)) (fun vs W hb he => ?_) ?_; (simp [edgeSat, Region.binds, Fact.at_] at he; unfold locRun; go_simp; exact loc_val); refine wpLoc_det (.int .i64 bx) (fun vs W hb he => ?_) ?_; (obtain ⟨k1, k2⟩ := (HX4.out.keep hb).cs; obtain ⟨k3, k4⟩ := (HY4.out.keep hb).cs; obtain ⟨k5, k6⟩ := (HP4.out.keep hb).cs; simp only at k1 k2 k3 k4 k5 k6; simp [edgeSat, Region.binds, Fact.at_] at he; unfold locRun; go_simp; exact loc_val); refine wpLoc_det (.pointer (some ⟨g1, 0, none⟩)) (fun vs W hb he => ?_) ?_; (simp [edgeSat, Region.binds, Fact.at_] at he; unfold locRun; go_simp; exact loc_val); refine wpLoc_det (.int .i64 ax) (fun vs W hb he => ?_) ?_; (obtain ⟨k1, k2⟩ := (HX4.out.keep hb).cs; obtain ⟨k3, k4⟩ := (HY4.out.keep hb).cs; obtain ⟨k5, k6⟩ := (HP4.out.keep hb).cs; simp only at k1 k2 k3 k4 k5 k6; simp [edgeSat, Region.binds, Fact.at_] at he; unfold locRun; go_simp; exact loc_val); refine wpLoc_det (.int .i64 X1) (fun vs W hb he => ?_) ?_; (simp [edgeSat, Region.binds, Fact.at_] at he; unfold locRun; go_simp; exact loc_val); refine wpLoc_det (.pointer (some ⟨gp, 1, none⟩)) (fun vs W hb he => ?_) ?_; (simp [edgeSat, Region.binds, Fact.at_] at he; unfold locRun; go_simp; exact loc_val); refine wpLoc_det (.int .i64 my) (fun vs W hb he => ?_) ?_; (obtain ⟨k1, k2⟩ := (HX4.out.keep hb).cs; obtain ⟨k3, k4⟩ := (HY4.out.keep hb).cs; obtain ⟨k5, k6⟩ := (HP4.out.keep hb).cs; simp only at k1 k2 k3 k4 k5 k6; simp [edgeSat, Region.binds, Fact.at_] at he; unfold locRun; go_simp; exact loc_val); refine wpLoc_det (.pointer (some ⟨g1, 1, none⟩)) (fun vs W hb he => ?_) ?_; (simp [edgeSat, Region.binds, Fact.at_] at he; unfold locRun; go_simp; exact loc_val); refine wpLoc_det (.int .i64 ay) (fun vs W hb he => ?_) ?_; (obtain ⟨k1, k2⟩ := (HX4.out.keep hb).cs; obtain ⟨k3, k4⟩ := (HY4.out.keep hb).cs; obtain ⟨k5, k6⟩ := (HP4.out.keep hb).cs; simp only at k1 k2 k3 k4 k5 k6; simp [edgeSat, Region.binds, Fact.at_] at he; unfold locRun; go_simp; exact loc_val); refine wpLoc_det (.int .i64 C2) (fun vs W hb he => ?_) ?_; (simp [edgeSat, Region.binds, Fact.at_] at he; unfold locRun; go_simp; exact loc_val); refine wpLoc_det (.int .i64 X2) (fun vs W hb he => ?_) ?_; (simp [edgeSat, Region.binds, Fact.at_] at he; unfold locRun; go_simp; exact loc_val); refine wpLoc_det (.int .i64 X3) (fun vs W hb he => ?_) ?_; (simp [edgeSat, Region.binds, Fact.at_] at he; unfold locRun; go_simp; exact loc_val); refine wpLoc_det (.pointer (some ⟨g2, 1, none⟩)) (fun vs W hb he => ?_) ?_; (simp [edgeSat, Region.binds, Fact.at_] at he; unfold locRun; go_simp; exact loc_val); refine wpLoc_det (.int .i64 b_y) (fun vs W hb he => ?_) ?_; (obtain ⟨k1, k2⟩ := (HX4.out.keep hb).cs; obtain ⟨k3, k4⟩ := (HY4.out.keep hb).cs; obtain ⟨k5, k6⟩ := (HP4.out.keep hb).cs; simp only at k1 k2 k3 k4 k5 k6; simp [edgeSat, Region.binds, Fact.at_] at he; unfold locRun; go_simp; exact loc_val); refine wpLoc_det (.pointer (some ⟨g1, 1, none⟩)) (fun vs W hb he => ?_) ?_; (simp [edgeSat, Region.binds, Fact.at_] at he; unfold locRun; go_simp; exact loc_val); refine wpLoc_det (.int .i64 ay) (fun vs W hb he => ?_) ?_; (obtain ⟨k1, k2⟩ := (HX4.out.keep hb).cs; obtain ⟨k3, k4⟩ := (HY4.out.keep hb).cs; obtain ⟨k5, k6⟩ := (HP4.out.keep hb).cs; simp only at k1 k2 k3 k4 k5 k6; simp [edgeSat, Region.binds, Fact.at_] at he; unfold locRun; go_simp; exact loc_val); refine wpLoc_det (.int .i64 X4) (fun vs W hb he => ?_) ?_; (simp [edgeSat, Region.binds, Fact.at_] at he; unfold locRun; go_simp; exact loc_val); refine wpLoc_det (.pointer (some ⟨gp, 0, none⟩)) (fun vs W hb he => ?_) ?_; (simp [edgeSat, Region.binds, Fact.at_] at he; unfold locRun; go_simp; exact loc_val); refine wpLoc_det (.int .i64 mx) (fun vs W hb he => ?_) ?_; (obtain ⟨k1, k2⟩ := (HX4.out.keep hb).cs; obtain ⟨k3, k4⟩ := (HY4.out.keep hb).cs; obtain ⟨k5, k6⟩ := (HP4.out.keep hb).cs; simp only at k1 k2 k3 k4 k5 k6; simp [edgeSat, Region.binds, Fact.at_] at he; unfold locRun; go_simp; exact loc_val); refine wpLoc_det (.pointer (some ⟨g1, 0, none⟩)) (fun vs W hb he => ?_) ?_; (simp [edgeSat, Region.binds, Fact.at_] at he; unfold locRun; go_simp; exact loc_val); refine wpLoc_det (.int .i64 ax) (fun vs W hb he => ?_) ?_; (obtain ⟨k1, k2⟩ := (HX4.out.keep hb).cs; obtain ⟨k3, k4⟩ := (HY4.out.keep hb).cs; obtain ⟨k5, k6⟩ := (HP4.out.keep hb).cs; simp only at k1 k2 k3 k4 k5 k6; simp [edgeSat, Region.binds, Fact.at_] at he; unfold locRun; go_simp; exact loc_val); refine wpLoc_det (.int .i64 C3) (fun vs W hb he => ?_) ?_; (simp [edgeSat, Region.binds, Fact.at_] at he; unfold locRun; go_simp; exact loc_val); refine wpLoc_det (.int .i64 X5) (fun vs W hb he => ?_) ?_; (simp [edgeSat, Region.binds, Fact.at_] at he; unfold locRun; go_simp; exact loc_val); refine wpLoc_det (.int .i64 X6) (fun vs W hb he => ?_) ?_; (simp [edgeSat, Region.binds, Fact.at_] at he; unfold locRun; go_simp; exact loc_val); refine wpLoc_det (.int .i64 CR) (fun vs W hb he => ?_) ?_; (simp [edgeSat, Region.binds, Fact.at_] at he; unfold locRun; go_simp; exact loc_val); refine wpLoc_det (.int .i64 CR) (fun vs W hb he => ?_) ?_; (simp [edgeSat, Region.binds, Fact.at_] at he; unfold locRun; go_simp; exact loc_val); refine wpLoc_nil fun vs W hb he => ?_; simp only [List.nil_append, List.cons_append, factsAll, Fact.at_, Nat.reduceAdd] at he; obtain ⟨-, -, -, -, -, -, -, -, -, -, -, -, -, -, -, -, -, -, -, -, -, -, -, -, -, e25, -⟩ := he; rw [e25]; have HX5 := Aside0.mk (HX4.out.keep hb); have HY5 := Aside0.mk (HY4.out.keep hb); have HP5 := Aside0.mk (HP4.out.keep hb); have HB5 := Aside0.mk (HB4.out.trans (hb.mono HB4.out.size)); clear e25 hb HX4 HY4 HP4 HB4)
          | ((with_reducible refine wpList_gate [_, _, _, _, _, _, _, _, _, _, _, _, _, _, _, _, _, _] ?_); refine wpList_row [_, _, _, _, _, _, _, _, _, _, _, _, _, _, _, _, _, _] rfl (by kernel_rfl) (by kernel_rfl) (fun xs => by simp only [fill, Act.put, List.setIfInBounds_toArray, List.set_cons_zero, List.set_cons_succ, Nat.reduceAdd]; rfl) ?_; refine wpLoc_det (.pointer (some ⟨g1, 1, none⟩)) (fun vs W hb he => ?_) ?_; (simp [edgeSat, Region.binds, Fact.at_] at he; unfold locRun; go_simp; exact loc_val); refine wpLoc_det (.int .i64 ay) (fun vs W hb he => ?_) ?_; (obtain ⟨k1, k2⟩ := (HX5.out.keep hb).cs; obtain ⟨k3, k4⟩ := (HY5.out.keep hb).cs; obtain ⟨k5, k6⟩ := (HP5.out.keep hb).cs; simp only at k1 k2 k3 k4 k5 k6; simp [edgeSat, Region.binds, Fact.at_] at he; unfold locRun; go_simp; exact loc_val); refine wpLoc_det (.int .i64 C2) (fun vs W hb he => ?_) ?_; (simp [edgeSat, Region.binds, Fact.at_] at he; unfold locRun; go_simp; exact loc_val); refine wpLoc_det (.pointer (some ⟨gp, 1, none⟩)) (fun vs W hb he => ?_) ?_; (simp [edgeSat, Region.binds, Fact.at_] at he; unfold locRun; go_simp; exact loc_val); refine wpLoc_det (.int .i64 my) (fun vs W hb he => ?_) ?_; (obtain ⟨k1, k2⟩ := (HX5.out.keep hb).cs; obtain ⟨k3, k4⟩ := (HY5.out.keep hb).cs; obtain ⟨k5, k6⟩ := (HP5.out.keep hb).cs; simp only at k1 k2 k3 k4 k5 k6; simp [edgeSat, Region.binds, Fact.at_] at he; unfold locRun; go_simp; exact loc_val); refine wpLoc_det (.bool b1) (fun vs W hb he => ?_) ?_; (simp [edgeSat, Region.binds, Fact.at_] at he; unfold locRun; go_simp; exact loc_val); refine wpLoc_det (.bool b1) (fun vs W hb he => ?_) ?_; (simp [edgeSat, Region.binds, Fact.at_] at he; unfold locRun; go_simp; exact loc_val); refine wpLoc_det (if b1 then .pointer (some ⟨gp, 1, none⟩) else undef) (fun vs W hb he => ?_) ?_; (cases b1 <;> (simp [edgeSat, Region.binds, Fact.at_] at he; unfold locRun; go_simp; try exact loc_val)); refine wpLoc_det (if b1 then .int .i64 my else undef) (fun vs W hb he => ?_) ?_; (obtain ⟨k1, k2⟩ := (HX5.out.keep hb).cs; obtain ⟨k3, k4⟩ := (HY5.out.keep hb).cs; obtain ⟨k5, k6⟩ := (HP5.out.keep hb).cs; simp only at k1 k2 k3 k4 k5 k6; cases b1 <;> (simp [edgeSat, Region.binds, Fact.at_] at he; unfold locRun; go_simp; try exact loc_val)); refine wpLoc_det (if b1 then .pointer (some ⟨g2, 1, none⟩) else undef) (fun vs W hb he => ?_) ?_; (cases b1 <;> (simp [edgeSat, Region.binds, Fact.at_] at he; unfold locRun; go_simp; try exact loc_val)); refine wpLoc_det (if b1 then .int .i64 b_y else undef) (fun vs W hb he => ?_) ?_; (obtain ⟨k1, k2⟩ := (HX5.out.keep hb).cs; obtain ⟨k3, k4⟩ := (HY5.out.keep hb).cs; obtain ⟨k5, k6⟩ := (HP5.out.keep hb).cs; simp only at k1 k2 k3 k4 k5 k6; cases b1 <;> (simp [edgeSat, Region.binds, Fact.at_] at he; unfold locRun; go_simp; try exact loc_val)); refine wpLoc_det (if b1 then .int .i64 D2 else undef) (fun vs W hb he => ?_) ?_; (cases b1 <;> (simp [edgeSat, Region.binds, Fact.at_] at he; unfold locRun; go_simp; try exact loc_val)); refine wpLoc_det (if b1 then .bool b2 else undef) (fun vs W hb he => ?_) ?_; (cases b1 <;> (simp [edgeSat, Region.binds, Fact.at_] at he; unfold locRun; go_simp; try exact loc_val)); refine wpLoc_det (.bool g3) (fun vs W hb he => ?_) ?_; (rw [HG3.out]; cases b1 <;> (simp [edgeSat, Region.binds, Fact.at_] at he; unfold locRun; go_simp; exact loc_val)); refine wpLoc_det (.bool g3) (fun vs W hb he => ?_) ?_; (simp [edgeSat, Region.binds, Fact.at_] at he; unfold locRun; go_simp; exact loc_val); refine wpLoc_det (if g3 then .int .i64 CR else undef) (fun vs W hb he => ?_) ?_; (cases g3 <;> (simp [edgeSat, Region.binds, Fact.at_] at he; unfold locRun; go_simp; try exact loc_val)); refine wpLoc_det (if g3 then .bool b3 else undef) (fun vs W hb he => ?_) ?_; (cases g3 <;> (simp [edgeSat, Region.binds, Fact.at_] at he; unfold locRun; go_simp; try exact loc_val)); refine wpLoc_det (.bool g4) (fun vs W hb he => ?_) ?_; (rw [HG4.out]; cases g3 <;> (simp [edgeSat, Region.binds, Fact.at_] at he; unfold locRun; go_simp; exact loc_val)); refine wpLoc_nil fun vs W hb he => ?_; simp only [List.nil_append, List.cons_append, factsAll, Fact.at_, Nat.reduceAdd] at he; obtain ⟨-, -, -, -, -, -, -, -, -, -, -, -, -, -, -, -, -, e17, -⟩ := he; rw [e17]; have HB6 := Aside0.mk (HB5.out.trans (hb.mono HB5.out.size)); clear e17 hb HX5 HY5 HP5 HB5))
        all_goals exact ⟨⟨k + 1, rfl, by rw [← HN'.out, HUU.out]; first | (rw [if_pos (by assumption)]) | (rw [if_neg (by assumption)]) | (rw [if_neg (by rw [‹g4 = false›]; decide)]), by omega, ⟨by rw [← HN'.out]; exact HO'.out⟩, HB6⟩, by simp only [intOf]; omega⟩
    · have hd : decide ((k : Int) < (s.length : Int)) = false := by simp; omega
      go_wp2
      go_ret
      refine ⟨i64_ret ?_, (HB1.out.trans (HB2.out.mono HB1.out.size))⟩
      rw [HD.out, show k = s.length by omega]
end Go.Proofs.YtgabpbnndikheaaDoor

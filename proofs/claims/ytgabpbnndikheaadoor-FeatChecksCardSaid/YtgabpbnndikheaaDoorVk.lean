import Derived.Test.YtgabpbnndikheaaDoorVj
import Derived.Test.YtgabpbnndikheaaDoorVi
import Derived.Lib.ItoaLen
set_option linter.constructorNameAsVariable false
/-! The walk of ValueBack. -/
namespace Go.Proofs.YtgabpbnndikheaaDoor
open Go.RowKit Go.Proofs.YtgabpbnndikheaaDoorW.PrintWords

theorem sameB_iff (x y : Val) : sameB x y = true ↔ x = y := by
  obtain ⟨a, b, c, d⟩ := x
  obtain ⟨a', b', c', d'⟩ := y
  unfold sameB
  simp only [Bool.and_eq_true, beq_iff_eq, Val.mk.injEq]
  constructor
  · rintro ⟨h1, h2, h3, h4⟩
    exact ⟨h1, h2, arr_ext (by rw [← ByteArray.toList_eq, ← ByteArray.toList_eq]; exact h3), h4⟩
  · rintro ⟨rfl, rfl, rfl, rfl⟩
    exact ⟨rfl, rfl, rfl, rfl⟩
theorem sameB_self (x : Val) : sameB x x = true := (sameB_iff x x).2 rfl
theorem val_neq (x y : Val) (w : World) : (binOp .neq 23 (.agg #[.int .i64 x.kind, .int .i64 x.n, .string x.s, .bool x.b]) (.agg #[.int .i64 y.kind, .int .i64 y.n, .string y.s, .bool y.b])).run Tryd.prog w = .ok (.bool (!sameB x y)) w := by
  have u3 := Tryd.underlying3
  have u4 := Tryd.underlying4
  have u9 := Tryd.underlying9
  have hS : Tryd.prog.underlying 23 = some (.struct (Tryd.prog.fieldsOf 23)) := by kernel_rfl
  have hp : Tryd.prog.stoodInHeld 23 = false := by kernel_rfl
  rw [run_neq_struct, show (10000 : Nat) = 9999 + 1 from rfl, run_equalIn_agg w 9999 23 _ _ hS hp]
  simp only [Program.fieldsOf, Tryd.underlying23]
  unfold sameB
  go_simp
  by_cases h1 : x.kind = y.kind <;> by_cases h2 : x.n = y.n <;> by_cases h3 : x.s.toList = y.s.toList <;> by_cases h4 : x.b = y.b <;> simp [h1, h2, h3, h4]
theorem boxed_alloc (w : World) (x : Val) : Boxed (w.alloc (.cells #[.int .i64 x.kind, .int .i64 x.n, .string x.s, .bool x.b] 23)) w.heap.size x := heap_alloc_new w _
theorem show_size {v : Val} (h : checkVal v = 0) (hs : v.s.size ≤ 140737488351232) : (⟨(showVal v).toArray⟩ : ByteArray).size ≤ 140737488355232 := by
  show (showVal v).toArray.size ≤ _
  rw [List.size_toArray]
  obtain ⟨hk, h0, h1⟩ := check_kinds h
  rcases hk with e | e | e | e
  · rw [e]; decide
  · have es : showVal v = Lib.itoa v.n := by rw [e]; rfl
    rw [es]
    have := Lib.itoa_length_le v.n (by omega) (by omega)
    omega
  · have es : showVal v = 34 :: v.s.data.toList ++ [34] := by rw [e]; rfl
    rw [es]
    simp only [List.length_append, List.length_cons, List.length_nil, Array.length_toList]
    have : v.s.data.size = v.s.size := rfl
    omega
  · rw [e]
    cases v.b <;> decide
theorem check_size {v : Val} (h : checkVal v = 0) : v.s.size ≤ 40 := by
  unfold checkVal at h
  split at h
  · omega
  split at h
  · omega
  split at h
  · omega
  · omega

set_option maxHeartbeats 8000000 in
set_option maxRecDepth 100000 in
theorem valueBack_any (x : Val) (s : ByteArray) (w : World) (hE : Env w) (hk : -9223372036854775808 ≤ x.kind ∧ x.kind ≤ 9223372036854775807) (hn : -9223372036854775808 ≤ x.n ∧ x.n ≤ 9223372036854775807) (hx : x.s.size ≤ 140737488351232) (hs : s.size ≤ 140737488351232) :
    Calls Tryd.prog 4 #[x.v, .string s] w fun e w' => e = .returned (.bool true) ∧ Below w.heap.size w w' := by
  have c1 := fun W => check_any x W (by omega)
  have s1 := fun W (h : Env W) => show_any x W h (by omega) hn.1 hn.2
  have r1 := fun W (h : Env W) (hc : checkVal x = 0) => read_any ⟨(showVal x).toArray⟩ W h (show_size hc hx)
  have r1' : checkVal x = 0 → readVal ⟨(showVal x).toArray⟩ = (x, 0) := read_show
  have r2 := fun W (h : Env W) => read_any s W h (by omega)
  have g2 : (readVal s).2 = 0 → showVal (readVal s).1 = s.data.toList ∧ checkVal (readVal s).1 = 0 := read_good
  have b2 : (readVal s).2 ≠ 0 → (readVal s).1 = vNil := read_bad
  generalize readVal s = R at r2 g2 b2
  obtain ⟨y, E⟩ := R
  simp only at r2 g2 b2
  have c2 := fun W (h : checkVal y = 0) => h ▸ check_any y W (by have := check_size h; omega)
  have s2 := fun W (h : Env W) (hc : checkVal y = 0) => show_any y W h (by have := check_size hc; omega) (by have := (check_kinds hc).2; omega) (by have := (check_kinds hc).2; omega)
  have q1 := fun W => val_neq x x W
  rw [sameB_self] at q1
  generalize checkVal x = C at c1 r1 r1'
  generalize showVal x = S at s1 r1 r1'
  obtain ⟨k, n, t, b⟩ := x
  obtain ⟨k', n', t', b'⟩ := y
  simp only [Val.v] at c1 s1 r1 r2 c2 s2 q1 ⊢
  have C1 := Aside0.mk c1
  have S1 := Aside0.mk s1
  have R2 := Aside0.mk r2
  have C2 := Aside0.mk c2
  have S2 := Aside0.mk s2
  have G2 := Aside0.mk g2
  have B2 := Aside0.mk b2
  clear c1 s1 r2 c2 s2 g2 b2
  by_cases hC : C = 0
  · subst hC
    have R1 := Aside0.mk (fun W h => r1' rfl ▸ r1 W h rfl)
    clear r1 r1'
    simp only at R1
    by_cases hE0 : E = 0
    · subst hE0
      obtain ⟨G3, G4⟩ := G2.out rfl
      have s3 := fun W h => S2.out W h G4
      rw [show (⟨(showVal ⟨k', n', t', b'⟩).toArray⟩ : ByteArray) = s from arr_ext ((arr_list _).trans G3)] at s3
      have S3 := Aside0.mk s3
      clear s3
      have C3 := Aside0.mk (fun W => C2.out W G4)
      go_enter Tryd.func4, Tryd.ntmps4
      go_wp2_with (first
        | (go_at_call 8; refine (values_any _ (hE.below (below_alloc' (Below.refl _ _) _))).mono ?_; rintro e w1 ⟨rfl, hB1⟩; have hX1 := Boxed.keep (boxed_alloc w ⟨k, n, t, b⟩) hB1; have hE1 := Env.below (hE.below (below_alloc' (Below.refl _ _) _)) hB1; have hK1 := (below_alloc' (Below.refl _ _) _).trans (hB1.mono (by rw [World.size_alloc]; omega)); obtain ⟨k1, k2, k3, k4⟩ := hX1.cs; simp only at k1 k2 k3 k4)
        | (go_at_call 10; with_reducible refine (C1.out w1).mono ?_; rintro e w2 ⟨rfl, hB2⟩; have hX2 := hX1.keep hB2; have hE2 := hE1.below hB2; have hK2 := hK1.trans (hB2.mono hK1.size); obtain ⟨l1, l2, l3, l4⟩ := hX2.cs; simp only at l1 l2 l3 l4)
        | (go_at_call 12; with_reducible refine (S1.out w2 hE2).mono ?_; rintro e w3 ⟨rfl, hB3⟩; have hX3 := hX2.keep hB3; have hE3 := hE2.below hB3; have hK3 := hK2.trans (hB3.mono hK2.size); obtain ⟨m1, m2, m3, m4⟩ := hX3.cs; simp only at m1 m2 m3 m4)
        | (go_at_call 11; with_reducible refine (R1.out w3 hE3).mono ?_; rintro e w4 ⟨rfl, hB4⟩; have hX4 := hX3.keep hB4; have hE4 := hE3.below hB4; have hK4 := hK3.trans (hB4.mono hK3.size); have hL4 := below_alloc' (Below.refl w4.heap.size w4) (.cells #[.int .i64 k, .int .i64 n, .string t, .bool b] 23); have hX5 := hX4.keep hL4; have hE5 := hE4.below hL4; have hK5 := hK4.trans (hL4.mono hK4.size); obtain ⟨n1, n2, n3, n4⟩ := hX5.cs; simp only at n1 n2 n3 n4)
        | (go_at_call 11; with_reducible refine (R2.out _ hE5).mono ?_; rintro e w6 ⟨rfl, hB6⟩; have hE6 := hE5.below hB6; have hK6 := hK5.trans (hB6.mono hK5.size); have hL6 := below_alloc' (Below.refl w6.heap.size w6) (.cells #[.int .i64 (k'), .int .i64 (n'), .string t', .bool b'] 23); have hX7 := boxed_alloc w6 ⟨k', n', t', b'⟩; have hE7 := hE6.below hL6; have hK7 := hK6.trans (hL6.mono hK6.size))
        | (go_at_call 12; with_reducible refine (S3.out _ hE7).mono ?_; rintro e w8 ⟨rfl, hB8⟩; have hX8 := hX7.keep hB8; have hK8 := hK7.trans (hB8.mono hK7.size); obtain ⟨o1, o2, o3, o4⟩ := hX8.cs; simp only at o1 o2 o3 o4)
        | (go_at_call 10; with_reducible refine (C3.out w8).mono ?_; rintro e w9 ⟨rfl, hB9⟩; have hK9 := hK8.trans (hB9.mono hK8.size)))
      go_ret
      exact ⟨by simp, hK9⟩
    · have hy := B2.out hE0
      have hE1' : (E == 0) = false := by simpa using hE0
      unfold vNil at hy
      rw [Val.mk.injEq] at hy
      obtain ⟨rfl, rfl, rfl, rfl⟩ := hy
      have q3 := fun W => val_eql vNil vNil W
      rw [sameB_self] at q3
      simp only [vNil] at q3
      go_enter Tryd.func4, Tryd.ntmps4
      go_wp2_with (first
        | (go_at_call 8; refine (values_any _ (hE.below (below_alloc' (Below.refl _ _) _))).mono ?_; rintro e w1 ⟨rfl, hB1⟩; have hX1 := Boxed.keep (boxed_alloc w ⟨k, n, t, b⟩) hB1; have hE1 := Env.below (hE.below (below_alloc' (Below.refl _ _) _)) hB1; have hK1 := (below_alloc' (Below.refl _ _) _).trans (hB1.mono (by rw [World.size_alloc]; omega)); obtain ⟨k1, k2, k3, k4⟩ := hX1.cs; simp only at k1 k2 k3 k4)
        | (go_at_call 10; with_reducible refine (C1.out w1).mono ?_; rintro e w2 ⟨rfl, hB2⟩; have hX2 := hX1.keep hB2; have hE2 := hE1.below hB2; have hK2 := hK1.trans (hB2.mono hK1.size); obtain ⟨l1, l2, l3, l4⟩ := hX2.cs; simp only at l1 l2 l3 l4)
        | (go_at_call 12; with_reducible refine (S1.out w2 hE2).mono ?_; rintro e w3 ⟨rfl, hB3⟩; have hX3 := hX2.keep hB3; have hE3 := hE2.below hB3; have hK3 := hK2.trans (hB3.mono hK2.size); obtain ⟨m1, m2, m3, m4⟩ := hX3.cs; simp only at m1 m2 m3 m4)
        | (go_at_call 11; with_reducible refine (R1.out w3 hE3).mono ?_; rintro e w4 ⟨rfl, hB4⟩; have hX4 := hX3.keep hB4; have hE4 := hE3.below hB4; have hK4 := hK3.trans (hB4.mono hK3.size); have hL4 := below_alloc' (Below.refl w4.heap.size w4) (.cells #[.int .i64 k, .int .i64 n, .string t, .bool b] 23); have hX5 := hX4.keep hL4; have hE5 := hE4.below hL4; have hK5 := hK4.trans (hL4.mono hK4.size); obtain ⟨n1, n2, n3, n4⟩ := hX5.cs; simp only at n1 n2 n3 n4)
        | (go_at_call 11; with_reducible refine (R2.out _ hE5).mono ?_; rintro e w6 ⟨rfl, hB6⟩; have hE6 := hE5.below hB6; have hK6 := hK5.trans (hB6.mono hK5.size); have hL6 := below_alloc' (Below.refl w6.heap.size w6) (.cells #[.int .i64 (0), .int .i64 (0), .string ⟨#[]⟩, .bool false] 23); have hX7 := boxed_alloc w6 ⟨0, 0, ⟨#[]⟩, false⟩; have hE7 := hE6.below hL6; have hK7 := hK6.trans (hL6.mono hK6.size)))
      go_ret
      exact ⟨by simp, hK7⟩
  · have hC1 : (C == 0) = false := by simpa using hC
    clear r1 r1'
    by_cases hE0 : E = 0
    · subst hE0
      obtain ⟨G3, G4⟩ := G2.out rfl
      have s3 := fun W h => S2.out W h G4
      rw [show (⟨(showVal ⟨k', n', t', b'⟩).toArray⟩ : ByteArray) = s from arr_ext ((arr_list _).trans G3)] at s3
      have S3 := Aside0.mk s3
      clear s3
      have C3 := Aside0.mk (fun W => C2.out W G4)
      go_enter Tryd.func4, Tryd.ntmps4
      go_wp2_with (first
        | (go_at_call 8; refine (values_any _ (hE.below (below_alloc' (Below.refl _ _) _))).mono ?_; rintro e w1 ⟨rfl, hB1⟩; have hX1 := Boxed.keep (boxed_alloc w ⟨k, n, t, b⟩) hB1; have hE1 := Env.below (hE.below (below_alloc' (Below.refl _ _) _)) hB1; have hK1 := (below_alloc' (Below.refl _ _) _).trans (hB1.mono (by rw [World.size_alloc]; omega)); obtain ⟨k1, k2, k3, k4⟩ := hX1.cs; simp only at k1 k2 k3 k4)
        | (go_at_call 10; with_reducible refine (C1.out w1).mono ?_; rintro e w2 ⟨rfl, hB2⟩; have hX2 := hX1.keep hB2; have hE2 := hE1.below hB2; have hK2 := hK1.trans (hB2.mono hK1.size); obtain ⟨l1, l2, l3, l4⟩ := hX2.cs; simp only at l1 l2 l3 l4; have hE5 := hE2; have hK5 := hK2)
        | (go_at_call 11; with_reducible refine (R2.out _ hE5).mono ?_; rintro e w6 ⟨rfl, hB6⟩; have hE6 := hE5.below hB6; have hK6 := hK5.trans (hB6.mono hK5.size); have hL6 := below_alloc' (Below.refl w6.heap.size w6) (.cells #[.int .i64 (k'), .int .i64 (n'), .string t', .bool b'] 23); have hX7 := boxed_alloc w6 ⟨k', n', t', b'⟩; have hE7 := hE6.below hL6; have hK7 := hK6.trans (hL6.mono hK6.size))
        | (go_at_call 12; with_reducible refine (S3.out _ hE7).mono ?_; rintro e w8 ⟨rfl, hB8⟩; have hX8 := hX7.keep hB8; have hK8 := hK7.trans (hB8.mono hK7.size); obtain ⟨o1, o2, o3, o4⟩ := hX8.cs; simp only at o1 o2 o3 o4)
        | (go_at_call 10; with_reducible refine (C3.out w8).mono ?_; rintro e w9 ⟨rfl, hB9⟩; have hK9 := hK8.trans (hB9.mono hK8.size)))
      go_ret
      exact ⟨by simp, hK9⟩
    · have hy := B2.out hE0
      have hE1' : (E == 0) = false := by simpa using hE0
      unfold vNil at hy
      rw [Val.mk.injEq] at hy
      obtain ⟨rfl, rfl, rfl, rfl⟩ := hy
      have q3 := fun W => val_eql vNil vNil W
      rw [sameB_self] at q3
      simp only [vNil] at q3
      go_enter Tryd.func4, Tryd.ntmps4
      go_wp2_with (first
        | (go_at_call 8; refine (values_any _ (hE.below (below_alloc' (Below.refl _ _) _))).mono ?_; rintro e w1 ⟨rfl, hB1⟩; have hX1 := Boxed.keep (boxed_alloc w ⟨k, n, t, b⟩) hB1; have hE1 := Env.below (hE.below (below_alloc' (Below.refl _ _) _)) hB1; have hK1 := (below_alloc' (Below.refl _ _) _).trans (hB1.mono (by rw [World.size_alloc]; omega)); obtain ⟨k1, k2, k3, k4⟩ := hX1.cs; simp only at k1 k2 k3 k4)
        | (go_at_call 10; with_reducible refine (C1.out w1).mono ?_; rintro e w2 ⟨rfl, hB2⟩; have hX2 := hX1.keep hB2; have hE2 := hE1.below hB2; have hK2 := hK1.trans (hB2.mono hK1.size); obtain ⟨l1, l2, l3, l4⟩ := hX2.cs; simp only at l1 l2 l3 l4; have hE5 := hE2; have hK5 := hK2)
        | (go_at_call 11; with_reducible refine (R2.out _ hE5).mono ?_; rintro e w6 ⟨rfl, hB6⟩; have hE6 := hE5.below hB6; have hK6 := hK5.trans (hB6.mono hK5.size); have hL6 := below_alloc' (Below.refl w6.heap.size w6) (.cells #[.int .i64 (0), .int .i64 (0), .string ⟨#[]⟩, .bool false] 23); have hX7 := boxed_alloc w6 ⟨0, 0, ⟨#[]⟩, false⟩; have hE7 := hE6.below hL6; have hK7 := hK6.trans (hL6.mono hK6.size)))
      go_ret
      exact ⟨by simp, hK7⟩
end Go.Proofs.YtgabpbnndikheaaDoor

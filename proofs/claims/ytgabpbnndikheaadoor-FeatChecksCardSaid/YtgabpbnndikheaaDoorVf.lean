import Derived.Test.YtgabpbnndikheaaDoorVe
set_option linter.constructorNameAsVariable false
namespace Go.Proofs.YtgabpbnndikheaaDoor
open Go.RowKit Go.Proofs.YtgabpbnndikheaaDoorW.PrintWords

/-- What a text shows, before it is checked. -/
def preRead (s : ByteArray) : Option Val :=
  if s.data.toList = [110, 105, 108] then some vNil
  else if s.data.toList = [116, 114, 117, 101] then some (vBool true)
  else if s.data.toList = [102, 97, 108, 115, 101] then some (vBool false)
  else if 2 ≤ s.size ∧ s.data.toList.head? = some 34 ∧ s.data.toList.getLast? = some 34 then some (vText (s.extract 1 (s.size - 1)))
  else match atoiOk s.data.toList with
    | some n => if Lib.itoa n = s.data.toList then some (vNum n) else none
    | none => none
def readVal (s : ByteArray) : Val × Int :=
  match preRead s with
  | none => (vNil, 15)
  | some v => if checkVal v = 0 then (v, 0) else (vNil, checkVal v)

theorem atoiOk_range {l : List UInt8} {n : Int} (h : atoiOk l = some n) : -9223372036854775808 ≤ n ∧ n ≤ 9223372036854775807 := by
  unfold atoiOk Lib.atoiAll at h
  split at h
  · rename_i v hv
    injection h with h
    subst h
    split at hv
    · cases hv
    · simp only at hv
      split at hv
      · cases hv
      · cases hv
      · rename_i u _
        split at hv
        · cases hv
        · split at hv
          · cases hv
          · injection hv with hv
            subst hv
            split <;> omega
  · cases h
theorem Boxed.fr {w : World} {g : Nat} {x : Val} (h : Boxed w g x) (i : Nat) : w.frozen? ⟨g, i, none⟩ = false := by unfold Boxed at h; simp [World.frozen?, h]
/-- A whole value stored into its variable. -/
def set4 (w : World) (g : Nat) (k n : Int) (s : ByteArray) (b : Bool) : World :=
  (((w.setCell ⟨g, 0, none⟩ (.int .i64 k)).setCell ⟨g, 1, none⟩ (.int .i64 n)).setCell ⟨g, 2, none⟩ (.string s)).setCell ⟨g, 3, none⟩ (.bool b)
theorem Boxed.set {w : World} {g : Nat} {x : Val} (h : Boxed w g x) (k n : Int) (s : ByteArray) (b : Bool) : Boxed (set4 w g k n s b) g ⟨k, n, s, b⟩ := by
  unfold Boxed at h ⊢
  unfold set4
  simp [World.setCell, Array.getElem?_modify, h]
theorem Boxed.far {w : World} {g g' : Nat} {x : Val} (h : Boxed w g x) (hg : g ≠ g') (k n : Int) (s : ByteArray) (b : Bool) : Boxed (set4 w g' k n s b) g x := by
  unfold set4 Boxed
  rw [Below.heap_setCell _ _ _ _ hg, Below.heap_setCell _ _ _ _ hg, Below.heap_setCell _ _ _ _ hg, Below.heap_setCell _ _ _ _ hg]
  exact h
theorem below_set4 {B : Nat} {w0 w : World} (h : Below B w0 w) {g : Nat} (hg : B ≤ g) (k n : Int) (s : ByteArray) (b : Bool) : Below B w0 (set4 w g k n s b) := by
  unfold set4
  exact (((h.setCell (p := ⟨g, 0, none⟩) hg _).setCell (p := ⟨g, 1, none⟩) hg _).setCell (p := ⟨g, 2, none⟩) hg _).setCell (p := ⟨g, 3, none⟩) hg _
/-- A body with two such variables, the result first: where they stand. -/
structure St (w W : World) (x y : Val) : Prop where
  below : Below w.heap.size w W
  res : Boxed W w.heap.size x
  var : Boxed W (w.heap.size + 1) y
theorem St.start {w w1 : World} (h : Below ((w.alloc (.cells #[.int .i64 0, .int .i64 0, .string ⟨#[]⟩, .bool false] 23)).alloc (.cells #[.int .i64 0, .int .i64 0, .string ⟨#[]⟩, .bool false] 23)).heap.size ((w.alloc (.cells #[.int .i64 0, .int .i64 0, .string ⟨#[]⟩, .bool false] 23)).alloc (.cells #[.int .i64 0, .int .i64 0, .string ⟨#[]⟩, .bool false] 23)) w1) :
    St w w1 vNil vNil := by
  have h0 : Below w.heap.size w ((w.alloc (.cells #[.int .i64 0, .int .i64 0, .string ⟨#[]⟩, .bool false] 23)).alloc (.cells #[.int .i64 0, .int .i64 0, .string ⟨#[]⟩, .bool false] 23)) := below_alloc' (below_alloc' (Below.refl _ _) _) _
  refine ⟨h0.trans (h.mono h0.size), ?_, ?_⟩
  · exact Boxed.keep (Boxed.keep (heap_alloc_new w _) (below_alloc' (Below.refl _ _) _)) h
  · have := heap_alloc_new (w.alloc (.cells #[.int .i64 0, .int .i64 0, .string ⟨#[]⟩, .bool false] 23)) (.cells #[.int .i64 0, .int .i64 0, .string ⟨#[]⟩, .bool false] 23)
    rw [World.size_alloc] at this
    exact Boxed.keep (x := vNil) this h
theorem St.call {w W W' : World} {x y : Val} (h : St w W x y) (hb : Below W.heap.size W W') : St w W' x y := ⟨h.below.trans (hb.mono h.below.size), h.res.keep hb, h.var.keep hb⟩
theorem St.set1 {w W : World} {x y : Val} (h : St w W x y) (k n : Int) (s : ByteArray) (b : Bool) : St w (set4 W (w.heap.size + 1) k n s b) x ⟨k, n, s, b⟩ :=
  ⟨below_set4 h.below (by omega) k n s b, h.res.far (by omega) k n s b, h.var.set k n s b⟩
theorem St.set0 {w W : World} {x y : Val} (h : St w W x y) (k n : Int) (s : ByteArray) (b : Bool) : St w (set4 W w.heap.size k n s b) ⟨k, n, s, b⟩ y :=
  ⟨below_set4 h.below (Nat.le_refl _) k n s b, h.res.set k n s b, h.var.far (by omega) k n s b⟩
theorem St.facts {w W : World} {x y : Val} (h : St w W x y) : (∀ i : Nat, W.frozen? ⟨w.heap.size, i, none⟩ = false) ∧ (∀ i : Nat, W.frozen? ⟨w.heap.size + 1, i, none⟩ = false) ∧
    W.cell? ⟨w.heap.size, 0, none⟩ = some (.int .i64 x.kind) ∧ W.cell? ⟨w.heap.size, 1, none⟩ = some (.int .i64 x.n) ∧ W.cell? ⟨w.heap.size, 2, none⟩ = some (.string x.s) ∧ W.cell? ⟨w.heap.size, 3, none⟩ = some (.bool x.b) ∧
    W.cell? ⟨w.heap.size + 1, 0, none⟩ = some (.int .i64 y.kind) ∧ W.cell? ⟨w.heap.size + 1, 1, none⟩ = some (.int .i64 y.n) ∧ W.cell? ⟨w.heap.size + 1, 2, none⟩ = some (.string y.s) ∧ W.cell? ⟨w.heap.size + 1, 3, none⟩ = some (.bool y.b) :=
  ⟨h.res.fr, h.var.fr, h.res.c0, h.res.c1, h.res.c2, h.res.c3, h.var.c0, h.var.c1, h.var.c2, h.var.c3⟩

set_option maxHeartbeats 4000000 in
set_option maxRecDepth 100000 in
theorem read_any (s : ByteArray) (w : World) (hE : Env w) (hm : s.size ≤ 140737488355232) :
    Calls Tryd.prog 11 #[.string s] w fun e w' => e = .returned (.tuple #[(readVal s).1.v, .int .i64 (readVal s).2]) ∧ Below w.heap.size w w' := by
  have HE := Aside0.mk hE
  clear hE
  by_cases h1 : s.toList = [110, 105, 108]
  · have HR := Aside0.mk (show readVal s = (vNil, 0) by unfold readVal preRead; rw [← ByteArray.toList_eq, if_pos h1]; rfl)
    have b1 : (s.toList == [110, 105, 108]) = true := by simp [h1]
    clear h1
    go_enter Tryd.func11, Tryd.ntmps11
    go_wp2_with (first
      | (go_at_call 39; refine (atoi_any s _ (HE.out.below (below_alloc' (below_alloc' (Below.refl _ _) _) _)) (by omega)).mono ?_; rintro e w1 ⟨n, err, rfl, hB1, hA⟩; have H := Aside0.mk (St.start hB1); clear hB1; obtain ⟨f0, f1, d0, d1, d2, d3, c0, c1, c2, c3⟩ := H.out.facts; simp only [vNil, vNum, vText, vBool] at c0 c1 c2 c3 d0 d1 d2 d3; have HA := Aside0.mk hA; clear hA)
      | (go_at_call 10; refine (check_any vNil _ (by decide)).mono ?_; rintro e w2 ⟨rfl, hB2⟩; have H := Aside0.mk (H.out.call hB2); clear hB2; obtain ⟨f0, f1, d0, d1, d2, d3, c0, c1, c2, c3⟩ := H.out.facts; simp only [vNil, vNum, vText, vBool] at c0 c1 c2 c3 d0 d1 d2 d3; have hk : (checkVal vNil != 0) = false := by decide))
    have H2 := Aside0.mk (H.out.set0 0 0 ⟨#[]⟩ false)
    unfold set4 at H2
    refine bodyPost_ret (v := .tuple #[vNil.v, .int .i64 0]) (by simp [results, Tryd.results11, go_sem, *]; rfl) rfl ⟨by rw [HR.out], H2.out.below⟩
  have b1 : (s.toList == [110, 105, 108]) = false := by simp [h1]
  by_cases h2 : s.toList = [116, 114, 117, 101]
  · have HR := Aside0.mk (show readVal s = (vBool true, 0) by unfold readVal preRead; rw [← ByteArray.toList_eq, if_neg h1, if_pos h2]; rfl)
    have b2 : (s.toList == [116, 114, 117, 101]) = true := by simp [h2]
    clear h1 h2
    go_enter Tryd.func11, Tryd.ntmps11
    go_wp2_with (first
      | (go_at_call 39; refine (atoi_any s _ (HE.out.below (below_alloc' (below_alloc' (Below.refl _ _) _) _)) (by omega)).mono ?_; rintro e w1 ⟨n, err, rfl, hB1, hA⟩; have H := Aside0.mk (St.start hB1); clear hB1; obtain ⟨f0, f1, d0, d1, d2, d3, c0, c1, c2, c3⟩ := H.out.facts; simp only [vNil, vNum, vText, vBool] at c0 c1 c2 c3 d0 d1 d2 d3; have HA := Aside0.mk hA; clear hA)
      | (go_at_call 27; refine (bool_any true _).mono ?_; rintro e w2 ⟨rfl, hB2⟩; have H := Aside0.mk (H.out.call hB2); clear hB2; obtain ⟨f0, f1, d0, d1, d2, d3, c0, c1, c2, c3⟩ := H.out.facts; simp only [vNil, vNum, vText, vBool] at c0 c1 c2 c3 d0 d1 d2 d3; simp only [vBool, Val.v])
      | (go_at_call 10; refine (check_any (vBool true) _ (by decide)).mono ?_; rintro e w3 ⟨rfl, hB3⟩; have H := Aside0.mk ((H.out.set1 3 0 ⟨#[]⟩ true).call hB3); clear hB3; obtain ⟨f0, f1, d0, d1, d2, d3, c0, c1, c2, c3⟩ := H.out.facts; simp only [vNil, vNum, vText, vBool] at c0 c1 c2 c3 d0 d1 d2 d3; have hk : (checkVal (vBool true) != 0) = false := by decide))
    have H2 := Aside0.mk (H.out.set0 3 0 ⟨#[]⟩ true)
    unfold set4 at H2
    refine bodyPost_ret (v := .tuple #[(vBool true).v, .int .i64 0]) (by simp [results, Tryd.results11, go_sem, *]; rfl) rfl ⟨by rw [HR.out], H2.out.below⟩
  by_cases h3 : s.toList = [102, 97, 108, 115, 101]
  · have HR := Aside0.mk (show readVal s = (vBool false, 0) by unfold readVal preRead; rw [← ByteArray.toList_eq, if_neg h1, if_neg h2, if_pos h3]; rfl)
    have b2 : (s.toList == [102, 97, 108, 115, 101]) = true := by simp [h3]
    have b3 : (s.toList == [116, 114, 117, 101]) = false := by simp [h2]
    have bt : (s.toList == [116, 114, 117, 101]) = false := b3
    clear h1 h2 h3
    go_enter Tryd.func11, Tryd.ntmps11
    go_wp2_with (first
      | (go_at_call 39; refine (atoi_any s _ (HE.out.below (below_alloc' (below_alloc' (Below.refl _ _) _) _)) (by omega)).mono ?_; rintro e w1 ⟨n, err, rfl, hB1, hA⟩; have H := Aside0.mk (St.start hB1); clear hB1; obtain ⟨f0, f1, d0, d1, d2, d3, c0, c1, c2, c3⟩ := H.out.facts; simp only [vNil, vNum, vText, vBool] at c0 c1 c2 c3 d0 d1 d2 d3; have HA := Aside0.mk hA; clear hA)
      | (go_at_call 27; refine (bool_any false _).mono ?_; rintro e w2 ⟨rfl, hB2⟩; have H := Aside0.mk (H.out.call hB2); clear hB2; obtain ⟨f0, f1, d0, d1, d2, d3, c0, c1, c2, c3⟩ := H.out.facts; simp only [vNil, vNum, vText, vBool] at c0 c1 c2 c3 d0 d1 d2 d3; simp only [vBool, Val.v])
      | (go_at_call 10; refine (check_any (vBool false) _ (by decide)).mono ?_; rintro e w3 ⟨rfl, hB3⟩; have H := Aside0.mk ((H.out.set1 3 0 ⟨#[]⟩ false).call hB3); clear hB3; obtain ⟨f0, f1, d0, d1, d2, d3, c0, c1, c2, c3⟩ := H.out.facts; simp only [vNil, vNum, vText, vBool] at c0 c1 c2 c3 d0 d1 d2 d3; have hk : (checkVal (vBool false) != 0) = false := by decide))
    have H2 := Aside0.mk (H.out.set0 3 0 ⟨#[]⟩ false)
    unfold set4 at H2
    refine bodyPost_ret (v := .tuple #[(vBool false).v, .int .i64 0]) (by simp [results, Tryd.results11, go_sem, *]; rfl) rfl ⟨by rw [HR.out], H2.out.below⟩
  have b2 : (s.toList == [116, 114, 117, 101]) = false := by simp [h2]
  have b3 : (s.toList == [102, 97, 108, 115, 101]) = false := by simp [h3]
  by_cases h4 : 2 ≤ s.size ∧ s.data.toList.head? = some 34 ∧ s.data.toList.getLast? = some 34
  · have hp : preRead s = some (vText (s.extract 1 (s.size - 1))) := by unfold preRead; rw [← ByteArray.toList_eq, if_neg h1, if_neg h2, if_neg h3, ByteArray.toList_eq, if_pos h4]
    obtain ⟨hl2, hh, hla⟩ := h4
    have hd : decide ((2 : Int) ≤ (s.size : Int)) = true := by simp; omega
    have q0 : (((s[0]'(by omega)).toNat : Int) == 34) = true := by
      rw [List.head?_eq_getElem?, List.getElem?_eq_getElem (by simp; omega), ba_get s 0 (by omega)] at hh
      injection hh with hh
      rw [hh]; rfl
    have q1 : (((s[s.size - 1]'(by omega)).toNat : Int) == 34) = true := by
      rw [List.getLast?_eq_getElem?] at hla
      have hz : s.data.toList.length = s.size := by simp
      rw [hz, List.getElem?_eq_getElem (by simp; omega), ba_get s (s.size - 1) (by omega)] at hla
      injection hla with hla
      rw [hla]; rfl
    have HP := Aside0.mk hp
    clear h1 h2 h3 hh hla hp
    go_enter Tryd.func11, Tryd.ntmps11
    go_wp2_with (first
      | (go_at_call 39; refine (atoi_any s _ (HE.out.below (below_alloc' (below_alloc' (Below.refl _ _) _) _)) (by omega)).mono ?_; rintro e w1 ⟨n, err, rfl, hB1, hA⟩; have H := Aside0.mk (St.start hB1); clear hB1; obtain ⟨f0, f1, d0, d1, d2, d3, c0, c1, c2, c3⟩ := H.out.facts; simp only [vNil, vNum, vText, vBool] at c0 c1 c2 c3 d0 d1 d2 d3; have HA := Aside0.mk hA; clear hA)
      | (go_at_call 26; fail))
    have hts : (s.extract 1 (s.size - 1)).size ≤ 9223372036854775807 := by rw [ByteArray.size_extract]; omega
    generalize s.extract 1 (s.size - 1) = t at *
    by_cases hk : checkVal (vText t) = 0
    · have HR := Aside0.mk (show readVal s = (vText t, 0) by unfold readVal; rw [HP.out]; simp [hk])
      have bk : (checkVal (vText t) != 0) = false := by simp [hk]
      clear hk
      go_wp2_with (first
        | (go_at_call 26; refine (text_any t _).mono ?_; rintro e w2 ⟨rfl, hB2⟩; have H := Aside0.mk (H.out.call hB2); clear hB2; obtain ⟨f0, f1, d0, d1, d2, d3, c0, c1, c2, c3⟩ := H.out.facts; simp only [vNil, vNum, vText, vBool] at c0 c1 c2 c3 d0 d1 d2 d3; simp only [vText, Val.v])
        | (go_at_call 10; refine (check_any (vText t) _ hts).mono ?_; rintro e w3 ⟨rfl, hB3⟩; have H := Aside0.mk ((H.out.set1 2 0 t false).call hB3); clear hB3; obtain ⟨f0, f1, d0, d1, d2, d3, c0, c1, c2, c3⟩ := H.out.facts; simp only [vNil, vNum, vText, vBool] at c0 c1 c2 c3 d0 d1 d2 d3))
      have H2 := Aside0.mk (H.out.set0 2 0 t false)
      unfold set4 at H2
      refine bodyPost_ret (v := .tuple #[(vText t).v, .int .i64 0]) (by simp [results, Tryd.results11, go_sem, *]; rfl) rfl ⟨by rw [HR.out], H2.out.below⟩
    · have HR := Aside0.mk (show readVal s = (vNil, checkVal (vText t)) by unfold readVal; rw [HP.out]; simp [hk])
      have bk : (checkVal (vText t) != 0) = true := by simp [hk]
      clear hk
      go_wp2_with (first
        | (go_at_call 26; refine (text_any t _).mono ?_; rintro e w2 ⟨rfl, hB2⟩; have H := Aside0.mk (H.out.call hB2); clear hB2; obtain ⟨f0, f1, d0, d1, d2, d3, c0, c1, c2, c3⟩ := H.out.facts; simp only [vNil, vNum, vText, vBool] at c0 c1 c2 c3 d0 d1 d2 d3; simp only [vText, Val.v])
        | (go_at_call 10; refine (check_any (vText t) _ hts).mono ?_; rintro e w3 ⟨rfl, hB3⟩; have H := Aside0.mk ((H.out.set1 2 0 t false).call hB3); clear hB3; obtain ⟨f0, f1, d0, d1, d2, d3, c0, c1, c2, c3⟩ := H.out.facts; simp only [vNil, vNum, vText, vBool] at c0 c1 c2 c3 d0 d1 d2 d3))
      have H2 := Aside0.mk (H.out.set0 0 0 ⟨#[]⟩ false)
      unfold set4 at H2
      refine bodyPost_ret (v := .tuple #[vNil.v, .int .i64 (checkVal (vText t))]) (by simp [results, Tryd.results11, go_sem, *]; rfl) rfl ⟨by rw [HR.out], H2.out.below⟩
  have hp : preRead s = match atoiOk s.data.toList with | some n => if Lib.itoa n = s.data.toList then some (vNum n) else none | none => none := by unfold preRead; rw [← ByteArray.toList_eq, if_neg h1, if_neg h2, if_neg h3, ByteArray.toList_eq, if_neg h4]
  have hnq : decide ((2 : Int) ≤ (s.size : Int)) = false ∨ ∃ h2 : 2 ≤ s.size, decide ((2 : Int) ≤ (s.size : Int)) = true ∧ ((((s[0]'(by omega)).toNat : Int) == 34) = false ∨ (((s[0]'(by omega)).toNat : Int) == 34) = true ∧ (((s[s.size - 1]'(by omega)).toNat : Int) == 34) = false) := by
    by_cases h2s : 2 ≤ s.size
    · refine .inr ⟨h2s, by simp; omega, ?_⟩
      have hz : s.data.toList.length = s.size := by simp
      have e0 : s.data.toList.head? = some (s[0]'(by omega)) := by rw [List.head?_eq_getElem?, List.getElem?_eq_getElem (by simp; omega), ba_get s 0 (by omega)]
      have e1 : s.data.toList.getLast? = some (s[s.size - 1]'(by omega)) := by rw [List.getLast?_eq_getElem?, hz, List.getElem?_eq_getElem (by simp; omega), ba_get s (s.size - 1) (by omega)]
      rw [e0, e1] at h4
      by_cases a : s[0]'(by omega) = 34
      · refine .inr ⟨by rw [a]; rfl, ?_⟩
        have hb : ¬ s[s.size - 1]'(by omega) = 34 := fun hb => h4 ⟨h2s, by rw [a], by rw [hb]⟩
        simp only [beq_eq_false_iff_ne, ne_eq]
        intro h
        exact hb (UInt8.toNat_inj.1 (show _ = (34 : UInt8).toNat by have : (34 : UInt8).toNat = 34 := rfl; omega))
      · left
        simp only [beq_eq_false_iff_ne, ne_eq]
        intro h
        exact a (UInt8.toNat_inj.1 (show _ = (34 : UInt8).toNat by have : (34 : UInt8).toNat = 34 := rfl; omega))
    · exact .inl (by simp; omega)
  have HP := Aside0.mk hp
  clear h1 h2 h3 h4 hp
  rcases hnq with q1 | ⟨h2s, q1, q2 | ⟨q2, q3⟩⟩
  all_goals
    go_enter Tryd.func11, Tryd.ntmps11
    go_wp2_with (first
      | (go_at_call 39; refine (atoi_any s _ (HE.out.below (below_alloc' (below_alloc' (Below.refl _ _) _) _)) (by omega)).mono ?_; rintro e w1 ⟨n, err, rfl, hB1, hA⟩; have H := Aside0.mk (St.start hB1); clear hB1; obtain ⟨f0, f1, d0, d1, d2, d3, c0, c1, c2, c3⟩ := H.out.facts; simp only [vNil, vNum, vText, vBool] at c0 c1 c2 c3 d0 d1 d2 d3; rcases hA with ⟨ha, rfl⟩ | ⟨ha, t0, p0, rfl⟩))
    · have hr0 := atoiOk_range ha
      by_cases he : Lib.itoa n = s.data.toList
      · have hb : (Lib.itoa n == s.toList) = true := by rw [ByteArray.toList_eq, ← he]; simp
        by_cases hk : checkVal (vNum n) = 0
        · have HR := Aside0.mk (show readVal s = (vNum n, 0) by unfold readVal; rw [HP.out, ha]; simp [hk, he])
          have bk : (checkVal (vNum n) != 0) = false := by simp [hk]
          have HH := Aside0.mk (And.intro hr0 he)
          clear hk he
          go_wp2_with (first
            | (go_at_call 40; refine (itoa_any n _ (HE.out.below H.out.below) hr0.1 hr0.2).mono ?_; rintro e w2 ⟨rfl, hB2⟩; have H := Aside0.mk (H.out.call hB2); clear hB2; obtain ⟨f0, f1, d0, d1, d2, d3, c0, c1, c2, c3⟩ := H.out.facts; simp only [vNil, vNum, vText, vBool] at c0 c1 c2 c3 d0 d1 d2 d3)
            | (go_at_call 25; refine (num_any n _).mono ?_; rintro e w3 ⟨rfl, hB3⟩; have H := Aside0.mk (H.out.call hB3); clear hB3; obtain ⟨f0, f1, d0, d1, d2, d3, c0, c1, c2, c3⟩ := H.out.facts; simp only [vNil, vNum, vText, vBool] at c0 c1 c2 c3 d0 d1 d2 d3; simp only [vNum, Val.v])
            | (go_at_call 10; refine (check_any (vNum n) _ (show (0 : Nat) ≤ 9223372036854775807 by omega)).mono ?_; rintro e w4 ⟨rfl, hB4⟩; have H := Aside0.mk ((H.out.set1 1 n ⟨#[]⟩ false).call hB4); clear hB4; obtain ⟨f0, f1, d0, d1, d2, d3, c0, c1, c2, c3⟩ := H.out.facts; simp only [vNil, vNum, vText, vBool] at c0 c1 c2 c3 d0 d1 d2 d3))
          have H2 := Aside0.mk (H.out.set0 1 n ⟨#[]⟩ false)
          unfold set4 at H2
          refine bodyPost_ret (v := .tuple #[(vNum n).v, .int .i64 0]) (by simp [results, Tryd.results11, go_sem, *]; rfl) rfl ⟨by rw [HR.out], H2.out.below⟩
        · have HR := Aside0.mk (show readVal s = (vNil, checkVal (vNum n)) by unfold readVal; rw [HP.out, ha]; simp [hk, he])
          have bk : (checkVal (vNum n) != 0) = true := by simp [hk]
          have HH := Aside0.mk (And.intro hr0 he)
          clear hk he
          go_wp2_with (first
            | (go_at_call 40; refine (itoa_any n _ (HE.out.below H.out.below) hr0.1 hr0.2).mono ?_; rintro e w2 ⟨rfl, hB2⟩; have H := Aside0.mk (H.out.call hB2); clear hB2; obtain ⟨f0, f1, d0, d1, d2, d3, c0, c1, c2, c3⟩ := H.out.facts; simp only [vNil, vNum, vText, vBool] at c0 c1 c2 c3 d0 d1 d2 d3)
            | (go_at_call 25; refine (num_any n _).mono ?_; rintro e w3 ⟨rfl, hB3⟩; have H := Aside0.mk (H.out.call hB3); clear hB3; obtain ⟨f0, f1, d0, d1, d2, d3, c0, c1, c2, c3⟩ := H.out.facts; simp only [vNil, vNum, vText, vBool] at c0 c1 c2 c3 d0 d1 d2 d3; simp only [vNum, Val.v])
            | (go_at_call 10; refine (check_any (vNum n) _ (show (0 : Nat) ≤ 9223372036854775807 by omega)).mono ?_; rintro e w4 ⟨rfl, hB4⟩; have H := Aside0.mk ((H.out.set1 1 n ⟨#[]⟩ false).call hB4); clear hB4; obtain ⟨f0, f1, d0, d1, d2, d3, c0, c1, c2, c3⟩ := H.out.facts; simp only [vNil, vNum, vText, vBool] at c0 c1 c2 c3 d0 d1 d2 d3))
          have H2 := Aside0.mk (H.out.set0 0 0 ⟨#[]⟩ false)
          unfold set4 at H2
          refine bodyPost_ret (v := .tuple #[vNil.v, .int .i64 (checkVal (vNum n))]) (by simp [results, Tryd.results11, go_sem, *]; rfl) rfl ⟨by rw [HR.out], H2.out.below⟩
      · have hb : (Lib.itoa n == s.toList) = false := by rw [ByteArray.toList_eq]; simpa using he
        have HR := Aside0.mk (show readVal s = (vNil, 15) by unfold readVal; rw [HP.out, ha]; simp [he])
        clear he
        go_wp2_with (first
          | (go_at_call 40; refine (itoa_any n _ (HE.out.below H.out.below) hr0.1 hr0.2).mono ?_; rintro e w2 ⟨rfl, hB2⟩; have H := Aside0.mk (H.out.call hB2); clear hB2; obtain ⟨f0, f1, d0, d1, d2, d3, c0, c1, c2, c3⟩ := H.out.facts; simp only [vNil, vNum, vText, vBool] at c0 c1 c2 c3 d0 d1 d2 d3))
        have H2 := Aside0.mk (H.out.set0 0 0 ⟨#[]⟩ false)
        unfold set4 at H2
        refine bodyPost_ret (v := .tuple #[vNil.v, .int .i64 15]) (by simp [results, Tryd.results11, go_sem, *]; rfl) rfl ⟨by rw [HR.out], H2.out.below⟩
    · have HR := Aside0.mk (show readVal s = (vNil, 15) by unfold readVal; rw [HP.out, ha])
      have H2 := Aside0.mk (H.out.set0 0 0 ⟨#[]⟩ false)
      unfold set4 at H2
      refine bodyPost_ret (v := .tuple #[vNil.v, .int .i64 15]) (by simp [results, Tryd.results11, go_sem, *]; rfl) rfl ⟨by rw [HR.out], H2.out.below⟩
end Go.Proofs.YtgabpbnndikheaaDoor

import Derived.Test.YtgabpbnndikheaaDoorNb
import Derived.Test.YtgabpbnndikheaaDoorNname
import Derived.Test.YtgabpbnndikheaaDoorVm
set_option linter.constructorNameAsVariable false
/-! The reference's attributes. -/
namespace Go.Proofs.YtgabpbnndikheaaDoor
open Go.RowKit Go.Proofs.YtgabpbnndikheaaDoorW.PrintWords

def lastKey (l : List Att) (i : Nat) : ByteArray := if i = 0 then ⟨#[]⟩ else (att l (i - 1)).key
theorem less_nil {k : ByteArray} (h : nameOk k = true) : Op.bytesLess (⟨#[]⟩ : ByteArray).toList k.toList = true := by
  have hs : 1 ≤ k.size := by
    unfold nameOk at h
    simp at h
    omega
  rw [ByteArray.toList_eq, ByteArray.toList_eq]
  have hl : k.data.toList ≠ [] := by
    intro e
    have : k.data.toList.length = 0 := by rw [e]; rfl
    rw [Array.length_toList] at this
    have h2 : k.size = k.data.size := rfl
    omega
  cases hk : k.data.toList with
  | nil => exact absurd hk hl
  | cons x m => rfl
theorem leq_law : ∀ a b : List UInt8, (Op.bytesLess a b || a == b) = !Op.bytesLess b a
  | [], [] => rfl
  | [], _ :: _ => rfl
  | _ :: _, [] => rfl
  | x :: l, y :: m => by
    have ih := leq_law l m
    unfold Op.bytesLess
    rcases Nat.lt_trichotomy x.toNat y.toNat with h | h | h
    · have h1 : x < y := UInt8.lt_iff_toNat_lt.2 h
      have h2 : ¬ y < x := fun e => by have := UInt8.lt_iff_toNat_lt.1 e; omega
      have h3 : (y == x) = false := by
        rw [beq_eq_false_iff_ne]
        intro e
        rw [e] at h
        omega
      simp [h1, h2, h3]
    · have h1 : x = y := UInt8.toNat_inj.1 h
      subst h1
      have h2 : ¬ x < x := fun e => by have := UInt8.lt_iff_toNat_lt.1 e; omega
      simp only [h2, decide_false, Bool.false_or, beq_self_eq_true, Bool.true_and, List.cons_beq_cons]
      exact ih
    · have h1 : ¬ x < y := fun e => by have := UInt8.lt_iff_toNat_lt.1 e; omega
      have h2 : y < x := UInt8.lt_iff_toNat_lt.2 h
      have h3 : (x == y) = false := by
        rw [beq_eq_false_iff_ne]
        intro e
        rw [e] at h
        omega
      simp [h1, h2, h3]
theorem last_law {l : List Att} {i : Nat} {k : ByteArray} (h : nameOk k = true) : (0 < i ∧ notLess (att l (i - 1)).key k = true) ↔ (!Op.bytesLess (lastKey l i).toList k.toList) = true := by
  unfold lastKey notLess
  by_cases hi : i = 0
  · subst hi
    rw [if_pos rfl, less_nil h]
    simp
  · rw [if_neg hi]
    constructor
    · exact fun h => h.2
    · exact fun h => ⟨by omega, h⟩
theorem zero_val {v : Val} (h : checkVal v = 0) (hk : v.kind = 0) : v.n = 0 ∧ v.s = ⟨#[]⟩ ∧ v.b = false := by
  unfold checkVal at h
  rw [if_neg (by omega)] at h
  by_cases h2 : (v.kind ≠ 1 ∧ v.n ≠ 0) ∨ (v.kind ≠ 2 ∧ v.s.size ≠ 0) ∨ (v.kind ≠ 3 ∧ v.b = true)
  · rw [if_pos h2] at h; cases h
  · have h3 : v.n = 0 := by omega
    have h4 : v.s.size = 0 := by omega
    refine ⟨h3, ?_, ?_⟩
    · apply ByteArray.ext
      apply Array.eq_empty_of_size_eq_zero
      exact h4
    · cases hb : v.b
      · rfl
      · exact absurd (.inr (.inr ⟨by omega, hb⟩)) h2
set_option maxHeartbeats 4000000 in
set_option maxRecDepth 100000 in
theorem rattrs_any (l : List Att) (nils : Bool) (A : Option Addr) (c : Nat) (w : World) (h : RdT w A l) :
    Calls Tryd.prog 23 #[.slice A l.length c, .bool nils] w fun e w' => e = .returned (.int .i64 (attrsErr l nils)) ∧ Below w.heap.size w w' := by
  obtain ⟨R, hR⟩ : ∃ R, R = attrsErr l nils := ⟨_, rfl⟩
  rw [← hR]
  unfold attrsErr at hR
  have HR := Aside0.mk h
  have hbig := h.2.1
  clear h
  by_cases h8 : 8 < l.length
  · rw [if_pos h8] at hR
    have d1 : decide ((8 : Int) < (l.length : Int)) = true := by simp; omega
    subst hR
    go_enter Tryd.func23, Tryd.ntmps23
    go_wp2
    go_ret
    exact ⟨rfl, Below.refl _ _⟩
  rw [if_neg h8] at hR
  have d1 : decide ((8 : Int) < (l.length : Int)) = false := by simp; omega
  have HD := Aside0.mk hR
  clear hR
  go_enter Tryd.func23, Tryd.ntmps23
  go_wp2
  go_loopw [14, 5] (fun u v wr => ∃ i : Nat, u = .int .i64 i ∧ v = .string (lastKey l i) ∧ i ≤ l.length ∧ Aside0 (attrsUpto l nils i = 0) ∧ Aside0 (Below w.heap.size w wr)) (fun u _ _ => l.length - (intOf u).toNat)
  case atStart => exact ⟨0, rfl, rfl, Nat.zero_le _, ⟨rfl⟩, ⟨Below.refl _ _⟩⟩
  case round =>
    obtain ⟨i, rfl, rfl, hi0, HN, HB1⟩ := hrel
    by_cases hi : i < l.length
    · have hd : decide ((i : Int) < (l.length : Int)) = true := by simp; omega
      have hd' : ¬ l.length ≤ i := by omega
      have HS := Aside0.mk (fun e : attErr l nils i ≠ 0 => attrsUpto_stay hi HN.out e)
      have HT := Aside0.mk (fun e : attErr l nils i = 0 => (by rw [attrsUpto, if_pos HN.out]; exact e : attrsUpto l nils (i + 1) = 0))
      obtain ⟨E, hE⟩ : ∃ E, E = attErr l nils i := ⟨_, rfl⟩
      rw [← hE] at HS HT
      unfold attErr at hE
      have HLL := Aside0.mk (fun e : nameOk (att l i).key = true => last_law (l := l) (i := i) e)
      have HLN := Aside0.mk (show lastKey l (i + 1) = (att l i).key by unfold lastKey; rw [if_neg (by omega), Nat.add_sub_cancel])
      have HE := Aside0.mk hE
      clear hE
      obtain ⟨ad, rfl, k0, k1, k2, k3, k4, hks, hss⟩ := (HR.out.keep HB1.out).att hi
      have HC := Aside0.mk (fun W => rname_any (att l i).key W hks)
      have HV := Aside0.mk (fun W => verr_any (att l i).val W)
      have HZ := Aside0.mk (fun h hk => zero_val (v := (att l i).val) h hk)
      generalize att l i = a at *
      generalize lastKey l i = lk at *
      obtain ⟨key, val⟩ := a
      simp only at k0 k1 k2 k3 k4 HC HV HE HLL HLN HZ
      generalize nameOk key = b at *
      generalize checkVal val = m at *
      obtain ⟨vk, vn, vs, vb⟩ := val
      simp only [Val.v] at k0 k1 k2 k3 k4 HV HE HZ
      cases b
      · rw [if_pos rfl] at HE
        go_wp2_with (go_at_call 15; refine boxA_c fun w2 HB2 HX => ?_; (with_reducible refine (HC.out _).mono ?_); rintro e w3 ⟨rfl, hB⟩; have HB3 := Aside0.mk (below_call (below_call HB1.out HB2.out) hB); clear HB2 hB)
        go_ret
        refine ⟨i64_ret ?_, HB3.out⟩
        rw [HD.out, HS.out (by rw [HE.out]; decide), HE.out]
      · rw [if_neg (by decide)] at HE
        have hll := HLL.out (by first | rfl | trivial)
        have HF : Aside0 (E = if (!Op.bytesLess lk.toList key.toList) = true then 9 else if m ≠ 0 then m else if vk = 0 ∧ nils = false then 3 else 0) := ⟨by
          rw [HE.out]
          by_cases hf : (!Op.bytesLess lk.toList key.toList) = true
          · rw [if_pos (hll.2 hf), if_pos hf]
          · rw [if_neg (fun h => hf (hll.1 h)), if_neg hf]⟩
        clear hll HLL HE
        obtain ⟨f, hf⟩ : ∃ f, f = (!Op.bytesLess lk.toList key.toList) := ⟨_, rfl⟩
        rw [← hf] at HF
        have hf' := hf.symm
        rw [← leq_law] at hf'
        clear hf
        cases f
        rotate_left
        · rw [if_pos rfl] at HF
          go_wp2_with (go_at_call 15; refine boxA_c fun w2 HB2 HX => ?_; (with_reducible refine (HC.out _).mono ?_); rintro e w3 ⟨rfl, hB⟩; have HB3 := Aside0.mk (below_call (below_call HB1.out HB2.out) hB); have HX3 := Aside0.mk (HX.out.keep hB); obtain ⟨q0, q1, q2, q3, q4⟩ := HX3.out.cs; simp only at q0 q1 q2 q3 q4; clear HB2 hB HX)
          go_ret
          refine ⟨i64_ret ?_, HB3.out⟩
          rw [HD.out, HS.out (by rw [HF.out]; decide), HF.out]
        rw [if_neg (by decide)] at HF
        by_cases hm : m = 0
        rotate_left
        · rw [if_pos hm] at HF
          have hmb : (m == 0) = false := by simpa using hm
          have hmb2 : (m != 0) = true := by simpa using hm
          go_wp2_with (first | (go_at_call 15; refine boxA_c fun w2 HB2 HX => ?_; (with_reducible refine (HC.out _).mono ?_); rintro e w3 ⟨rfl, hB⟩; have HB3 := Aside0.mk (below_call (below_call HB1.out HB2.out) hB); have HX3 := Aside0.mk (HX.out.keep hB); obtain ⟨q0, q1, q2, q3, q4⟩ := HX3.out.cs; simp only at q0 q1 q2 q3 q4; clear HB2 hB HX) | (go_at_call 29; (with_reducible refine (HV.out _).mono ?_); rintro e w5 ⟨rfl, hB⟩; have HB5 := Aside0.mk (below_call HB3.out hB); obtain ⟨p0, p1, p2, p3, p4⟩ := (HX3.out.keep hB).cs; simp only at p0 p1 p2 p3 p4; clear hB))
          go_ret
          refine ⟨i64_ret ?_, HB5.out⟩
          rw [HD.out, HS.out (by rw [HF.out]; exact hm), HF.out]
        subst hm
        rw [if_neg (by simp)] at HF
        cases nils
        rotate_left
        · rw [if_neg (by simp)] at HF
          go_wp2_with (first | (go_at_call 15; refine boxA_c fun w2 HB2 HX => ?_; (with_reducible refine (HC.out _).mono ?_); rintro e w3 ⟨rfl, hB⟩; have HB3 := Aside0.mk (below_call (below_call HB1.out HB2.out) hB); have HX3 := Aside0.mk (HX.out.keep hB); obtain ⟨q0, q1, q2, q3, q4⟩ := HX3.out.cs; simp only at q0 q1 q2 q3 q4; clear HB2 hB HX) | (go_at_call 29; (with_reducible refine (HV.out _).mono ?_); rintro e w5 ⟨rfl, hB⟩; have HB5 := Aside0.mk (below_call HB3.out hB); obtain ⟨p0, p1, p2, p3, p4⟩ := (HX3.out.keep hB).cs; simp only at p0 p1 p2 p3 p4; clear hB))
          go_roundw
          case rel => exact ⟨i + 1, rfl, by rw [HLN.out], by omega, ⟨HT.out HF.out⟩, HB5⟩
          case measure => simp only [intOf]; omega
        by_cases hk : vk = 0
        · obtain ⟨z1, z2, z3⟩ := HZ.out (by first | rfl | trivial) hk
          try simp only at z1 z2 z3
          subst hk z1 z2 z3
          rw [if_pos ⟨rfl, rfl⟩] at HF
          go_wp2_with (first | (go_at_call 15; refine boxA_c fun w2 HB2 HX => ?_; (with_reducible refine (HC.out _).mono ?_); rintro e w3 ⟨rfl, hB⟩; have HB3 := Aside0.mk (below_call (below_call HB1.out HB2.out) hB); have HX3 := Aside0.mk (HX.out.keep hB); obtain ⟨q0, q1, q2, q3, q4⟩ := HX3.out.cs; simp only at q0 q1 q2 q3 q4; clear HB2 hB HX) | (go_at_call 29; (with_reducible refine (HV.out _).mono ?_); rintro e w5 ⟨rfl, hB⟩; have HB5 := Aside0.mk (below_call HB3.out hB); obtain ⟨p0, p1, p2, p3, p4⟩ := (HX3.out.keep hB).cs; simp only at p0 p1 p2 p3 p4; clear hB))
          go_ret
          refine ⟨i64_ret ?_, HB5.out⟩
          rw [HD.out, HS.out (by rw [HF.out]; decide), HF.out]
        · have hkb : (vk == 0) = false := by simpa using hk
          rw [if_neg (fun h => hk h.1)] at HF
          go_wp2_with (first | (go_at_call 15; refine boxA_c fun w2 HB2 HX => ?_; (with_reducible refine (HC.out _).mono ?_); rintro e w3 ⟨rfl, hB⟩; have HB3 := Aside0.mk (below_call (below_call HB1.out HB2.out) hB); have HX3 := Aside0.mk (HX.out.keep hB); obtain ⟨q0, q1, q2, q3, q4⟩ := HX3.out.cs; simp only at q0 q1 q2 q3 q4; clear HB2 hB HX) | (go_at_call 29; (with_reducible refine (HV.out _).mono ?_); rintro e w5 ⟨rfl, hB⟩; have HB5 := Aside0.mk (below_call HB3.out hB); obtain ⟨p0, p1, p2, p3, p4⟩ := (HX3.out.keep hB).cs; simp only at p0 p1 p2 p3 p4; clear hB))
          go_roundw
          case rel => exact ⟨i + 1, rfl, by rw [HLN.out], by omega, ⟨HT.out HF.out⟩, HB5⟩
          case measure => simp only [intOf]; omega
    · have hd : decide ((i : Int) < (l.length : Int)) = false := by simp; omega
      go_wp2
      go_ret
      refine ⟨i64_ret ?_, HB1.out⟩
      rw [HD.out, show l.length = i by omega, HN.out]
end Go.Proofs.YtgabpbnndikheaaDoor

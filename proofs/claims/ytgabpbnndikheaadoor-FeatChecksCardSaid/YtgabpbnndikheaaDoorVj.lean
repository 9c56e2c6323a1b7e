import Derived.Test.YtgabpbnndikheaaDoorVg
set_option linter.constructorNameAsVariable false
/-! The plain law of ValueBack: a numeral reads back; a value reads back from what it shows. -/
namespace Go.Proofs.YtgabpbnndikheaaDoor
open Go.RowKit Go.Proofs.YtgabpbnndikheaaDoorW.PrintWords

theorem parse_append (c : UInt8) : ∀ (l : List UInt8) (acc a : Nat), Lib.parseUint10 acc l = .ok a → Lib.parseUint10 acc (l ++ [c]) = Lib.parseUint10 a [c]
  | [], acc, a, h => by
    simp only [Lib.parseUint10, Lib.NumEnd.ok.injEq] at h
    subst h; rfl
  | d :: r, acc, a, h => by
    rw [List.cons_append, Lib.parseUint10]
    rw [Lib.parseUint10] at h
    split at h
    · rename_i h1
      rw [if_pos h1]
      split at h
      · cases h
      · rename_i h2
        rw [if_neg h2]
        split at h
        · cases h
        · rename_i h3
          rw [if_neg h3]
          exact parse_append c r _ a h
    · cases h
theorem digit_nat (d : Nat) (h : d < 10) : (UInt8.ofNat (48 + d)).toNat = 48 + d := by
  simp [UInt8.toNat_ofNat']; omega
theorem parse_dec (u : Nat) : u < 18446744073709551616 → Lib.parseUint10 0 (Lib.decDigits u) = .ok u := by
  induction u using Nat.strongRecOn with
  | _ u ih =>
    intro hu
    by_cases h : u < 10
    · rw [Lib.decDigits, dif_pos h]
      simp only [Lib.parseUint10, digit_nat u h]
      rw [if_pos (by omega), if_neg (by omega), if_neg (by omega)]
      congr 1; omega
    · rw [Lib.decDigits, dif_neg h, parse_append _ _ _ _ (ih (u / 10) (by omega) (by omega))]
      have hd := digit_nat (u % 10) (by omega)
      simp only [Lib.parseUint10, hd]
      rw [if_pos (by omega), if_neg (by omega), if_neg (by omega)]
      congr 1; omega
theorem dec_head (u : Nat) : ∃ c r, Lib.decDigits u = c :: r ∧ 48 ≤ c.toNat ∧ c.toNat ≤ 57 := by
  induction u using Nat.strongRecOn with
  | _ u ih =>
    by_cases h : u < 10
    · exact ⟨UInt8.ofNat (48 + u), [], by rw [Lib.decDigits, dif_pos h], by rw [digit_nat u h]; omega, by rw [digit_nat u h]; omega⟩
    · obtain ⟨c, r, e, h1, h2⟩ := ih (u / 10) (by omega)
      exact ⟨c, r ++ [UInt8.ofNat (48 + u % 10)], by rw [Lib.decDigits, dif_neg h, e, List.cons_append], h1, h2⟩
theorem mag_dec (u : Nat) (h : u < 18446744073709551616) : Lib.parseMag (Lib.decDigits u) = .ok u := by
  obtain ⟨c, r, e, _, _⟩ := dec_head u
  unfold Lib.parseMag
  rw [if_neg (by rw [e]; simp), parse_dec u h]
theorem itoa_head (n : Int) : ∃ c r, Lib.itoa n = c :: r ∧ (c.toNat = 45 ∨ (48 ≤ c.toNat ∧ c.toNat ≤ 57)) := by
  unfold Lib.itoa
  split
  · exact ⟨45, _, rfl, .inl rfl⟩
  · obtain ⟨c, r, e, h1, h2⟩ := dec_head n.toNat
    exact ⟨c, r, e, .inr ⟨h1, h2⟩⟩
theorem atoiAll_itoa (n : Int) (h0 : -9223372036854775808 ≤ n) (h1 : n ≤ 9223372036854775807) : Lib.atoiAll (Lib.itoa n) = .ok n := by
  unfold Lib.itoa
  split
  · rename_i hn
    rw [Lib.atoiAll_minus, mag_dec _ (by omega)]
    unfold Lib.signed
    simp only
    rw [if_neg (by omega)]
    simp only [Lib.NumEnd.ok.injEq]; omega
  · obtain ⟨c, r, e, h2, h3⟩ := dec_head n.toNat
    rw [e, Lib.atoiAll_plain c r (by omega) (by omega), ← e, mag_dec _ (by omega)]
    unfold Lib.signless
    simp only
    rw [if_neg (by omega)]
    simp only [Lib.NumEnd.ok.injEq]; omega
theorem atoi_itoa (n : Int) (h0 : -9223372036854775808 ≤ n) (h1 : n ≤ 9223372036854775807) : atoiOk (Lib.itoa n) = some n := by
  unfold atoiOk
  rw [atoiAll_itoa n h0 h1]
theorem arr_ext {a b : ByteArray} (h : a.data.toList = b.data.toList) : a = b := by
  cases a; cases b
  simp only at h
  rw [Array.toList_inj.1 h]
theorem arr_list (l : List UInt8) : (⟨l.toArray⟩ : ByteArray).data.toList = l := by simp
theorem mid_list (s : ByteArray) : (s.extract 1 (s.size - 1)).data.toList = (s.data.toList.drop 1).take (s.size - 2) := by
  rw [ByteArray.data_extract, Array.toList_extract]
  simp only [List.extract_eq_take_drop]
  congr 1
theorem quoted (l : List UInt8) (h2 : 2 ≤ l.length) (hh : l.head? = some 34) (hl : l.getLast? = some 34) : 34 :: (l.drop 1).take (l.length - 2) ++ [34] = l := by
  cases l with
  | nil => simp at h2
  | cons a r =>
    simp only [List.head?_cons, Option.some.injEq] at hh
    subst hh
    have hr : r ≠ [] := by rintro rfl; simp at h2
    rw [List.getLast?_cons_of_ne_nil hr, List.getLast?_eq_some_getLast hr, Option.some.injEq] at hl
    simp only [List.drop_one, List.tail_cons, List.length_cons, List.cons_append, List.cons.injEq, true_and]
    rw [show r.length + 1 - 2 = r.length - 1 by omega, ← List.dropLast_eq_take, ← hl, List.dropLast_concat_getLast hr]
theorem check_kinds {v : Val} (h : checkVal v = 0) : (v = vNil ∨ v = vNum v.n ∨ v = vText v.s ∨ v = vBool v.b) ∧ -1000000000000 ≤ v.n ∧ v.n ≤ 1000000000000 := by
  unfold checkVal at h
  split at h
  · omega
  · rename_i h1
    split at h
    · omega
    · rename_i h2
      split at h
      · omega
      · rename_i h3
        refine ⟨?_, by omega, by omega⟩
        obtain ⟨k, n, s, b⟩ := v
        simp only at h1 h2 h3 ⊢
        have hs : s.size = 0 → s = ⟨#[]⟩ := fun hz => arr_ext (by
          have : s.data.toList.length = 0 := by rw [Array.length_toList]; exact hz
          rw [List.length_eq_zero_iff.1 this])
        have hk : k = 0 ∨ k = 1 ∨ k = 2 ∨ k = 3 := by omega
        unfold vNil vNum vText vBool
        simp only [Val.mk.injEq]
        rcases hk with rfl | rfl | rfl | rfl
        · left
          refine ⟨rfl, by omega, hs (by omega), ?_⟩
          cases b
          · rfl
          · exact absurd (.inr (.inr ⟨by decide, rfl⟩)) h2
        · right; left
          refine ⟨rfl, trivial, hs (by omega), ?_⟩
          cases b
          · rfl
          · exact absurd (.inr (.inr ⟨by decide, rfl⟩)) h2
        · right; right; left
          refine ⟨rfl, by omega, trivial, ?_⟩
          cases b
          · rfl
          · exact absurd (.inr (.inr ⟨by decide, rfl⟩)) h2
        · right; right; right
          exact ⟨rfl, by omega, hs (by omega), trivial⟩
theorem size_q (l : List UInt8) : (⟨(34 :: l ++ [34]).toArray⟩ : ByteArray).size = l.length + 2 := by
  show (34 :: l ++ [34]).toArray.size = _
  rw [List.size_toArray]; simp
theorem size2 (l : List UInt8) : 2 ≤ (⟨(34 :: l ++ [34]).toArray⟩ : ByteArray).size := by rw [size_q]; omega
theorem mid_q (l : List UInt8) : ((34 :: l ++ [34]).drop 1).take (l.length + 2 - 2) = l := by simp
set_option maxRecDepth 100000 in
theorem pre_show {v : Val} (h : checkVal v = 0) : preRead ⟨(showVal v).toArray⟩ = some v := by
  obtain ⟨hk, h0, h1⟩ := check_kinds h
  unfold preRead
  simp only [arr_list]
  rcases hk with e | e | e | e
  · rw [e]; rfl
  · have es : showVal v = Lib.itoa v.n := by rw [e]; rfl
    obtain ⟨c, r, ei, hc⟩ := itoa_head v.n
    have ne (d : UInt8) (t : List UInt8) (hd : d.toNat ≠ 45 ∧ ¬ (48 ≤ d.toNat ∧ d.toNat ≤ 57)) : c :: r ≠ d :: t := by
      intro hh
      injection hh with hh _
      subst hh
      omega
    rw [es, ei, if_neg (ne _ _ (by decide)), if_neg (ne _ _ (by decide)), if_neg (ne _ _ (by decide)), if_neg (by
      rintro ⟨_, hh, _⟩
      simp only [List.head?_cons, Option.some.injEq] at hh
      subst hh
      revert hc; decide), ← ei, atoi_itoa _ (by omega) (by omega)]
    simp only
    rw [if_pos trivial, ← e]
  · have es : showVal v = 34 :: v.s.data.toList ++ [34] := by rw [e]; rfl
    rw [es, if_neg (by simp), if_neg (by simp), if_neg (by simp), if_pos ⟨size2 _, rfl, List.getLast?_concat⟩]
    rw [e]
    congr 2
    refine arr_ext ?_
    rw [mid_list, arr_list, size_q]
    exact mid_q _
  · rw [e]
    cases v.b <;> rfl
theorem read_show {v : Val} (h : checkVal v = 0) : readVal ⟨(showVal v).toArray⟩ = (v, 0) := by
  unfold readVal
  rw [pre_show h]
  simp only
  rw [if_pos h]
theorem pre_read {s : ByteArray} {v : Val} (h : preRead s = some v) : showVal v = s.data.toList := by
  unfold preRead at h
  split at h
  · rename_i e; injection h with h; subst h; rw [e]; rfl
  split at h
  · rename_i e; injection h with h; subst h; rw [e]; rfl
  split at h
  · rename_i e; injection h with h; subst h; rw [e]; rfl
  split at h
  · rename_i e
    injection h with h; subst h
    show 34 :: (s.extract 1 (s.size - 1)).data.toList ++ [34] = s.data.toList
    rw [mid_list]
    exact quoted _ (by rw [Array.length_toList]; exact e.1) e.2.1 e.2.2
  split at h
  · split at h
    · rename_i e; injection h with h; subst h; exact e
    · cases h
  · cases h
theorem read_good {s : ByteArray} (h : (readVal s).2 = 0) : showVal (readVal s).1 = s.data.toList ∧ checkVal (readVal s).1 = 0 := by
  unfold readVal at h ⊢
  cases e : preRead s with
  | none => rw [e] at h; simp at h
  | some v =>
    rw [e] at h
    simp only at h ⊢
    split at h
    · rename_i hc
      rw [if_pos hc]
      exact ⟨pre_read e, hc⟩
    · rename_i hc
      exact absurd h hc
theorem read_bad {s : ByteArray} (h : (readVal s).2 ≠ 0) : (readVal s).1 = vNil := by
  unfold readVal at h ⊢
  cases e : preRead s with
  | none => rfl
  | some v =>
    rw [e] at h
    simp only at h ⊢
    split at h
    · exact absurd rfl h
    · rename_i hc
      rw [if_neg hc]
end Go.Proofs.YtgabpbnndikheaaDoor

import Derived.Test.YtgabpbnndikheaaDoorVj
import Derived.Lib.ParseIntB
set_option linter.constructorNameAsVariable false
/-! The reference's Shown and Whole. -/
namespace Go.Proofs.YtgabpbnndikheaaDoor
open Go.RowKit Go.Proofs.YtgabpbnndikheaaDoorW.PrintWords

theorem parseM_eq : ∀ (l : List UInt8) (acc : Nat), Lib.parseUintM 18446744073709551615 acc l = Lib.parseUint10 acc l
  | [], _ => rfl
  | c :: r, acc => by
    rw [Lib.parseUintM, Lib.parseUint10]
    split
    · split
      · rfl
      · by_cases h : 18446744073709551615 < acc * 10 + (c.toNat - 48)
        · rw [if_pos h, if_pos (by omega)]
        · rw [if_neg h, if_neg (by omega)]
          exact parseM_eq r _
    · rfl
theorem parseU_eq (l : List UInt8) : Lib.parseUintB 64 l = Lib.parseMag l := by
  unfold Lib.parseUintB Lib.parseMag
  rw [show (2 ^ 64 - 1 : Nat) = 18446744073709551615 by decide, parseM_eq]
theorem parseI_eq (l : List UInt8) : Lib.parseIntB 64 l = Lib.atoiAll l := by
  unfold Lib.parseIntB Lib.atoiAll
  cases l with
  | nil => rfl
  | cons c r =>
    simp only [parseU_eq, show (2 ^ (64 - 1) : Nat) = 9223372036854775808 by decide]
    generalize Lib.parseMag _ = m
    cases m <;> rfl
theorem parse_any (s : ByteArray) (w : World) (hE : Env w) (hs : s.size ≤ 281474976710656) :
    Calls Tryd.prog 92 #[.string s, .int .i64 10, .int .i64 64] w fun e w' => ∃ n err, e = .returned (.tuple #[.int .i64 n, err]) ∧ Below w.heap.size w w' ∧
      ((atoiOk s.data.toList = some n ∧ err = .nilIface) ∨ (atoiOk s.data.toList = none ∧ ∃ t p, err = .iface t p)) := by
  unfold atoiOk
  rw [← parseI_eq]
  cases h : Lib.parseIntB 64 s.data.toList
  · rename_i v
    exact (Tryd.strconv_ParseInt_10_at64_ok s (by omega) v h w).mono fun _ w' ⟨he, hw⟩ => ⟨v, _, he, by
      rcases hw with rfl | ⟨t, rfl⟩
      · exact Below.refl _ _
      · exact below_bytes _ _ _, .inl ⟨rfl, rfl⟩⟩
  · obtain ⟨tp, p, hv⟩ := hE.syn
    exact (Tryd.strconv_ParseInt_10_at64_syntax_var s hs (by rw [h]; exact fun v hc => by cases hc) (by rw [h]; exact fun hc => by cases hc) tp p w hv).mono fun _ w' ⟨N, he, _, _, hb⟩ => ⟨0, _, he, hb, .inr ⟨rfl, _, _, rfl⟩⟩
  · obtain ⟨tp, p, hv⟩ := hE.rng
    exact (Tryd.strconv_ParseInt_10_at64_range_var s hs h tp p w hv).mono fun _ w' ⟨N, he, _, _, hb⟩ => ⟨_, _, he, hb, .inr ⟨rfl, _, _, rfl⟩⟩
theorem fmt_any (n : Int) (w : World) (hE : Env w) (h0 : -9223372036854775808 ≤ n) (h1 : n ≤ 9223372036854775807) :
    Calls Tryd.prog 55 #[.int .i64 n, .int .i64 10] w fun e w' => e = .returned (.string ⟨(Lib.itoa n).toArray⟩) ∧ Below w.heap.size w w' :=
  (Tryd.strconv_FormatInt_10 n h0 h1 w hE.pow).mono fun _ _ ⟨he, k, os, hw⟩ => ⟨he, hw ▸ below_grow w k os⟩
theorem join_q (bk : Nat) (s : ByteArray) (w : World) (h0 : w.cell? ⟨bk, 0, none⟩ = some (.string ⟨#[]⟩)) (h1 : w.cell? ⟨bk, 1, none⟩ = some (.string s)) (h2 : w.cell? ⟨bk, 2, none⟩ = some (.string ⟨#[]⟩)) (hbk : bk < w.heap.size) (hs : s.size ≤ 140737488355232) :
    Calls Tryd.prog 56 #[.slice (some ⟨bk, 0, none⟩) 3 3, .string ⟨#[34]⟩] w fun e w' => e = .returned (.string ⟨(34 :: s.data.toList ++ [34]).toArray⟩) ∧ Below w.heap.size w w' := by
  have hj : Lib.join ([⟨#[]⟩, s, ⟨#[]⟩].map (fun b : ByteArray => b.data.toList)) [34] = 34 :: s.data.toList ++ [34] := by simp [Lib.join, List.intercalate, List.intersperse]
  have := Tryd.strings_Join bk 0 3 [⟨#[]⟩, s, ⟨#[]⟩] ⟨#[34]⟩ w (fun j x hx => by
    rcases j with _ | _ | _ | j
    · simp at hx; subst hx; simpa using h0
    · simp at hx; subst hx; simpa using h1
    · simp at hx; subst hx; simpa using h2
    · simp at hx) hbk (by simp) (by simp) (by
      rw [show (⟨#[34]⟩ : ByteArray).data.toList = [34] from rfl, hj]
      simp only [List.length_append, List.length_cons, List.length_nil, Array.length_toList]
      have : s.data.size = s.size := rfl
      omega)
  rw [show (⟨#[34]⟩ : ByteArray).data.toList = [34] from rfl, hj] at this
  exact this
theorem str_ret {a b : List UInt8} (h : a = b) : Ending.returned (.string ⟨a.toArray⟩) = .returned (.string ⟨b.toArray⟩) := by rw [h]

set_option maxHeartbeats 4000000 in
set_option maxRecDepth 100000 in
theorem shown_any (v : Val) (w : World) (hE : Env w) (hm : v.s.size ≤ 140737488355232) (h0 : -9223372036854775808 ≤ v.n) (h1 : v.n ≤ 9223372036854775807) :
    Calls Tryd.prog 31 #[v.v] w fun e w' => e = .returned (.string ⟨(showVal v).toArray⟩) ∧ Below w.heap.size w w' := by
  obtain ⟨k, n, s, b⟩ := v
  simp only at hm h0 h1
  have HE := Aside0.mk hE
  clear hE
  have hk : ((k == 0) = true ∧ showVal ⟨k, n, s, b⟩ = [110, 105, 108]) ∨ ((k == 0) = false ∧ (k == 1) = true ∧ showVal ⟨k, n, s, b⟩ = Lib.itoa n) ∨ ((k == 0) = false ∧ (k == 1) = false ∧ (k == 2) = true ∧ showVal ⟨k, n, s, b⟩ = 34 :: s.data.toList ++ [34]) ∨
      ((k == 0) = false ∧ (k == 1) = false ∧ (k == 2) = false ∧ (k == 3) = true ∧ showVal ⟨k, n, s, b⟩ = Lib.formatBool b) ∨ ((k == 0) = false ∧ (k == 1) = false ∧ (k == 2) = false ∧ (k == 3) = false ∧ showVal ⟨k, n, s, b⟩ = [63]) := by
    unfold showVal
    simp only [beq_iff_eq, beq_eq_false_iff_ne, ne_eq]
    by_cases a0 : k = 0
    · simp [a0]
    by_cases a1 : k = 1
    · simp [a1]
    by_cases a2 : k = 2
    · simp [a2]
    by_cases a3 : k = 3
    · simp [a3]
    · simp [a0, a1, a2, a3]
  unfold Val.v
  generalize showVal ⟨k, n, s, b⟩ = R at *
  rcases hk with ⟨a0, rfl⟩ | ⟨a0, a1, rfl⟩ | ⟨a0, a1, a2, rfl⟩ | ⟨a0, a1, a2, a3, rfl⟩ | ⟨a0, a1, a2, a3, rfl⟩
  · go_enter Tryd.func31, Tryd.ntmps31
    go_wp2
    go_ret
    exact ⟨rfl, below_alloc' (Below.refl _ _) _⟩
  · go_enter Tryd.func31, Tryd.ntmps31
    go_wp2_with (go_at_call 55; go_loud (refine (fmt_any n _ (HE.out.below (below_alloc' (Below.refl _ _) _)) h0 h1).mono ?_; rintro e w1 ⟨rfl, hB⟩; have HB := Aside0.mk ((below_alloc' (Below.refl w.heap.size w) _).trans (hB.mono (by rw [World.size_alloc]; omega)))))
    go_ret
    exact ⟨rfl, HB.out⟩
  · go_enter Tryd.func31, Tryd.ntmps31
    go_wp2_with (go_at_call 56; go_loud (refine (join_q (w.heap.size + 1) s _ (by go_simp) (by go_simp) (by go_simp) (by simp only [World.size_alloc]; omega) hm).mono ?_; rintro e w1 ⟨rfl, hB⟩; have HB := Aside0.mk ((below_alloc' (below_alloc' (Below.refl w.heap.size w) _) _).trans (hB.mono (by simp only [World.size_alloc]; omega)))))
    go_ret
    exact ⟨rfl, HB.out⟩
  · cases b
    all_goals
      go_enter Tryd.func31, Tryd.ntmps31
      go_wp2
      go_ret
      exact ⟨rfl, below_alloc' (Below.refl _ _) _⟩
  · go_enter Tryd.func31, Tryd.ntmps31
    go_wp2
    go_ret
    exact ⟨rfl, below_alloc' (Below.refl _ _) _⟩
end Go.Proofs.YtgabpbnndikheaaDoor

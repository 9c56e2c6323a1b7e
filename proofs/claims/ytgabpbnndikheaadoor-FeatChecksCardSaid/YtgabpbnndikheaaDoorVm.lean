import Derived.Test.YtgabpbnndikheaaDoorVl
set_option linter.constructorNameAsVariable false
namespace Go.Proofs.YtgabpbnndikheaaDoor
open Go.RowKit Go.Proofs.YtgabpbnndikheaaDoorW.PrintWords

theorem bytes_elim {P : Program} {c : Code} {Q : Exit → Act → World → Prop} {a : Act} {w : World} {e : TypeId} {s : ByteArray}
    (h : ∀ W, Aside0 (Below w.heap.size w W) → Aside0 (∀ (j : Nat) (hj : j < s.size), W.cell? ⟨w.heap.size, j, none⟩ = some (.int .u8 (s[j].toNat : Int))) → c.wp P Q a W) : c.wp P Q a (Lib.bytesWorld w e s) :=
  h _ ⟨below_bytes _ _ _⟩ ⟨fun j hj => by
    rw [Lib.bytesWorld_cell w e s j hj, ← ba_get s j hj]
    simp [List.getD_eq_getElem?_getD, List.getElem?_eq_getElem (show j < s.data.toList.length from hj)]⟩

set_option maxHeartbeats 8000000 in
set_option maxRecDepth 100000 in
theorem verr_small (v : Val) (w : World) (hk : v.kind = 0 ∨ v.kind = 1 ∨ v.kind = 2 ∨ v.kind = 3) (hQ : sameB (keepVal v) v = true) (h1 : decide (1000000000000 < v.n) = false) (h2 : decide (v.n < -1000000000000) = false) (h3 : decide ((40 : Int) < v.s.size) = false) :
    Calls Tryd.prog 29 #[v.v] w fun e w' => e = .returned (.int .i64 (checkVal v)) ∧ Below w.heap.size w w' := by
  rw [checkVal_form v (by omega) (by omega), if_neg (by simp [hQ]), if_neg (by simp only [decide_eq_false_iff_not] at h1 h2 h3; omega)]
  have q := fun W => val_neq (keepVal v) v W
  rw [hQ] at q
  generalize hR : (if plainB v.s.data.toList = true then (0 : Int) else 3) = R
  obtain ⟨k, n, s, b⟩ := v
  simp only at hk h1 h2 h3 hR ⊢
  clear hQ
  have HR := Aside0.mk hR
  clear hR
  have hcv := fun W => Lib.run_convert_string_bytes (P := Tryd.prog) W 9 48 5 s Tryd.underlying9 Tryd.underlying48 Tryd.underlying5
  unfold Val.v
  have hsz : s.data.toList.length = s.size := by simp
  have HS := Aside0.mk hsz
  have hs40 : s.size ≤ 40 := by simp at h3; omega
  have HS4 := Aside0.mk hs40
  clear hsz hs40
  rcases hk with rfl | rfl | rfl | rfl
  all_goals
    simp only [keepVal, vNil, vNum, vText, vBool, if_true, if_false, Int.reduceEq, Bool.not_true] at q
    go_enter Tryd.func29, Tryd.ntmps29
    go_wp2
    refine bytes_elim fun W1 HB1 HC => ?_
    have HB := Aside0.mk ((below_alloc' (below_alloc' (below_alloc' (Below.refl w.heap.size w) (.cells #[.int .i64 _, .int .i64 n, .string s, .bool b] 23)) _) _).trans (HB1.out.mono (by simp; omega)))
    clear HB1 q hcv
    simp only [World.size_alloc] at HC
    generalize hg : w.heap.size + 1 + 1 + 1 = g at HC ⊢
    clear hg
    go_loop [50] (fun i => ∃ k : Nat, k ≤ s.size ∧ i = .int .i64 k ∧ Aside0 (plainB s.data.toList = plainB (s.data.toList.drop k))) (fun i => s.size - (intOf i).toNat)
    case atStart => exact ⟨0, Nat.zero_le _, rfl, ⟨rfl⟩⟩
    case round =>
      obtain ⟨k, hk, rfl, HF⟩ := hrel
      have hm := HS4.out
      by_cases hlt : k < s.size
      · have hd : decide ((k : Int) < s.size) = true := by simp; omega
        have HF1 := HF.out
        rw [List.drop_eq_getElem_cons (by rw [HS.out]; exact hlt), ba_get s k hlt] at HF1
        simp only [plainB, List.all_cons] at HF1
        have hc := HC.out k hlt
        have hu := s[k].toNat_lt
        by_cases hy : plainC s[k] = true
        · rw [hy, Bool.true_and] at HF1
          have HF2 := Aside0.mk HF1
          simp [plainC] at hy
          have y1 : decide ((s[k].toNat : Int) < 32) = false := by simp; omega
          have y2 : decide ((126 : Int) < (s[k].toNat : Int)) = false := by simp; omega
          have y3 : ((s[k].toNat : Int) == 34) = false := by simp; omega
          have HY := Aside0.mk hy
          clear HF HF1 hy
          go_wp2
          go_round
          case rel => exact ⟨k + 1, by omega, by go_num, HF2⟩
          case measure => simp [intOf]; omega
        · rw [show plainC s[k] = false by simpa using hy, Bool.false_and] at HF1
          have HF2 := Aside0.mk HF1
          have hq : decide ((s[k].toNat : Int) < 32) = true ∨ (decide ((s[k].toNat : Int) < 32) = false ∧ (decide ((126 : Int) < (s[k].toNat : Int)) = true ∨ decide ((126 : Int) < (s[k].toNat : Int)) = false ∧ ((s[k].toNat : Int) == 34) = true)) := by
            simp [plainC] at hy ⊢
            omega
          clear HF HF1 hy
          rcases hq with y1 | ⟨y1, y2 | ⟨y2, y3⟩⟩
          all_goals
            go_wp2
            go_ret
            exact ⟨ret_int (by rw [← HR.out, show plainB s.data.toList = false from HF2.out]; rfl), HB.out⟩
      · have hd : decide ((k : Int) < s.size) = false := by simp; omega
        have HF1 := HF.out
        rw [List.drop_of_length_le (by rw [HS.out]; omega)] at HF1
        have HF2 := Aside0.mk HF1
        clear HF HF1
        go_wp2
        go_ret
        exact ⟨ret_int (by rw [← HR.out, HF2.out]; rfl), HB.out⟩

theorem verr_any (v : Val) (w : World) :
    Calls Tryd.prog 29 #[v.v] w fun e w' => e = .returned (.int .i64 (checkVal v)) ∧ Below w.heap.size w w' := by
  by_cases hk : v.kind < 0 ∨ 3 < v.kind
  · exact verr_bad v w hk
  have hk4 : v.kind = 0 ∨ v.kind = 1 ∨ v.kind = 2 ∨ v.kind = 3 := by omega
  cases hQ : sameB (keepVal v) v
  · exact verr_large v w hk4 (.inl hQ)
  by_cases h1 : 1000000000000 < v.n
  · exact verr_large v w hk4 (.inr (.inl (decide_eq_true h1)))
  by_cases h2 : v.n < -1000000000000
  · exact verr_large v w hk4 (.inr (.inr ⟨decide_eq_false h1, .inl (decide_eq_true h2)⟩))
  by_cases h3 : (40 : Int) < v.s.size
  · exact verr_large v w hk4 (.inr (.inr ⟨decide_eq_false h1, .inr ⟨decide_eq_false h2, decide_eq_true h3⟩⟩))
  exact verr_small v w hk4 hQ (decide_eq_false h1) (decide_eq_false h2) (decide_eq_false h3)
end Go.Proofs.YtgabpbnndikheaaDoor

import Derived.Test.YtgabpbnndikheaaDoorVo
import Derived.Test.YtgabpbnndikheaaDoorVm
set_option linter.constructorNameAsVariable false
/-! The reference's Whole and ValueOf. -/
namespace Go.Proofs.YtgabpbnndikheaaDoor
open Go.RowKit Go.Proofs.YtgabpbnndikheaaDoorW.PrintWords

def num (l : List UInt8) : Option Int := match atoiOk l with
  | some n => if Lib.itoa n = l then some n else none
  | none => none
set_option maxHeartbeats 4000000 in
set_option maxRecDepth 100000 in
theorem whole_any (s : ByteArray) (w : World) (hE : Env w) (hs : s.size ≤ 140737488355232) :
    Calls Tryd.prog 53 #[.string s] w fun e w' => ∃ n b, e = .returned (.tuple #[.int .i64 n, .bool b]) ∧ Below w.heap.size w w' ∧ ((b = true ∧ num s.data.toList = some n) ∨ (b = false ∧ num s.data.toList = none)) := by
  have HE := Aside0.mk hE
  clear hE
  go_enter Tryd.func53, Tryd.ntmps53
  go_wp2_with (go_at_call 92; go_loud (refine (parse_any s _ HE.out (by omega)).mono ?_; rintro e w1 ⟨n, err, rfl, hB1, hA⟩; rcases hA with ⟨ha, rfl⟩ | ⟨ha, t0, p0, rfl⟩))
  · have hr0 := atoiOk_range ha
    by_cases he : Lib.itoa n = s.data.toList
    · have hb : (Lib.itoa n == s.toList) = true := by rw [ByteArray.toList_eq, ← he]; simp
      have hn : num s.data.toList = some n := by unfold num; rw [ha]; simp [he]
      have HN := Aside0.mk hn
      clear hn he ha
      go_wp2_with (go_at_call 55; go_loud (refine (fmt_any n _ (HE.out.below hB1) hr0.1 hr0.2).mono ?_; rintro e w2 ⟨rfl, hB2⟩))
      refine bodyPost_ret (v := .tuple #[.int .i64 n, .bool true]) (by simp [results, Tryd.results53, go_sem, *]) rfl ⟨n, true, rfl, hB1.trans (hB2.mono hB1.size), .inl ⟨rfl, HN.out⟩⟩
    · have hb : (Lib.itoa n == s.toList) = false := by rw [ByteArray.toList_eq]; simpa using he
      have hn : num s.data.toList = none := by unfold num; rw [ha]; simp [he]
      have HN := Aside0.mk hn
      clear hn he ha
      go_wp2_with (go_at_call 55; go_loud (refine (fmt_any n _ (HE.out.below hB1) hr0.1 hr0.2).mono ?_; rintro e w2 ⟨rfl, hB2⟩))
      refine bodyPost_ret (v := .tuple #[.int .i64 n, .bool false]) (by simp [results, Tryd.results53, go_sem, *]) rfl ⟨n, false, rfl, hB1.trans (hB2.mono hB1.size), .inr ⟨rfl, HN.out⟩⟩
  · have hn : num s.data.toList = none := by unfold num; rw [ha]
    have HN := Aside0.mk hn
    clear hn ha
    go_wp2
    refine bodyPost_ret (v := .tuple #[.int .i64 n, .bool false]) (by simp [results, Tryd.results53, go_sem, *]) rfl ⟨n, false, rfl, hB1, .inr ⟨rfl, HN.out⟩⟩
end Go.Proofs.YtgabpbnndikheaaDoor

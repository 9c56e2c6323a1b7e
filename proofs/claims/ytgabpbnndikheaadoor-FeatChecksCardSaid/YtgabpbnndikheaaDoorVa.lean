import Derived.Test.YtgabpbnndikheaaDoorSh
import Derived.Test.YtgabpbnndikheaaDoorUb
import Derived.Test.YtgabpbnndikheaaDoorRg
import Derived.Lib.AtoiAll
import Derived.Lib.ItoaNum
set_option linter.constructorNameAsVariable false
namespace Go.Proofs.YtgabpbnndikheaaDoor
open Go.RowKit Go.Proofs.YtgabpbnndikheaaDoorW.PrintWords

/-! What the library's conversions need of the package-level variables. -/
theorem var_below {P : Program} {w w' : World} {n : String} {cs : Array Value} (h : w.var? P n = some cs) (hb : Below w.heap.size w w') : w'.var? P n = some cs := by
  unfold World.var? at h ⊢
  cases hg : P.globalNamed n with
  | none => rw [hg] at h; cases h
  | some g =>
    rw [hg] at h
    simp only [Option.bind_some] at h ⊢
    have hlt : g < w.heap.size := by
      rcases Nat.lt_or_ge g w.heap.size with h1 | h1
      · exact h1
      · rw [Array.getElem?_eq_none h1] at h; cases h
    rw [hb.block g hlt]
    exact h
structure Env (w : World) : Prop where
  syn : ∃ tp p, w.var? Tryd.prog "strconv.ErrSyntax" = some #[.iface tp p]
  rng : ∃ tp p, w.var? Tryd.prog "strconv.ErrRange" = some #[.iface tp p]
  pow : Lib.TabIs Tryd.prog w "internal/strconv.uint64pow10" .u64 Lib.pow10Tab
theorem Env.below {w w' : World} (h : Env w) (hb : Below w.heap.size w w') : Env w' :=
  ⟨let ⟨tp, p, e⟩ := h.syn; ⟨tp, p, var_below e hb⟩, let ⟨tp, p, e⟩ := h.rng; ⟨tp, p, var_below e hb⟩, var_below h.pow hb⟩

theorem below_grow (w : World) (k : Nat) (os : Array Obj) : Below w.heap.size w (Sort.grow (w.drewN k) os) := by
  refine (pw_below_drewN (Below.refl _ w) k).trans ⟨rfl, rfl, rfl, ?_, fun i hi => ?_⟩
  · simp [Sort.grow]
  · show (w.heap ++ os)[i]? = w.heap[i]?
    rw [Array.getElem?_append_left hi]
theorem below_freeze {B : Nat} {w0 w : World} (h : Below B w0 w) {a : Addr} (ha : B ≤ a.block) (n : Nat) : Below B w0 (w.freeze a n) := by
  unfold World.freeze
  by_cases hn : n = 0
  · rw [if_pos hn]; exact h
  · rw [if_neg hn]
    refine h.trans ⟨rfl, rfl, rfl, by simp, fun i hi => ?_⟩
    simp only [Array.getElem?_modify]
    rw [if_neg (by omega)]
theorem below_bytes (w : World) (e : TypeId) (t : ByteArray) : Below w.heap.size w (Lib.bytesWorld w e t) := by
  unfold Lib.bytesWorld
  have h1 : Below w.heap.size w (w.drew.alloc (.cells (Lib.bytesCells w e t) e)) := ((Below.refl w.heap.size w).drew).alloc (Nat.le_refl _) _
  exact below_freeze h1 (Nat.le_refl _) 1
theorem itoa_any (n : Int) (w : World) (hE : Env w) (h0 : -9223372036854775808 ≤ n) (h1 : n ≤ 9223372036854775807) :
    Calls Tryd.prog 40 #[.int .i64 n] w fun e w' => e = .returned (.string ⟨(Lib.itoa n).toArray⟩) ∧ Below w.heap.size w w' :=
  (Tryd.strconv_Itoa n h0 h1 w hE.pow).mono fun _ _ ⟨he, k, os, hw⟩ => ⟨he, hw ▸ below_grow w k os⟩
theorem fmtBool_any (b : Bool) (w : World) :
    Calls Tryd.prog 41 #[.bool b] w fun e w' => e = .returned (.string ⟨(Lib.formatBool b).toArray⟩) ∧ w = w' := (Tryd.strconv_FormatBool b w).mono fun _ _ ⟨he, hw⟩ => ⟨he, hw.symm⟩
theorem strcmp_any (a b : ByteArray) (w : World) :
    Calls Tryd.prog 37 #[.string a, .string b] w fun e w' => e = .returned (.int .i64 (Lib.compareBytes a.data.toList b.data.toList)) ∧ w = w' := (Tryd.strings_Compare a b w).mono fun _ _ ⟨he, hw⟩ => ⟨he, hw.symm⟩
/-- Atoi: a number, or an error that is not nil. -/
def atoiOk (l : List UInt8) : Option Int := match Lib.atoiAll l with | .ok v => some v | _ => none
theorem atoi_any (s : ByteArray) (w : World) (hE : Env w) (hs : s.size ≤ 281474976710656) :
    Calls Tryd.prog 39 #[.string s] w fun e w' => ∃ n err, e = .returned (.tuple #[.int .i64 n, err]) ∧ Below w.heap.size w w' ∧
      ((atoiOk s.data.toList = some n ∧ err = .nilIface) ∨ (atoiOk s.data.toList = none ∧ ∃ t p, err = .iface t p)) := by
  unfold atoiOk
  cases h : Lib.atoiAll s.data.toList
  · rename_i v
    exact (Tryd.strconv_Atoi_ok s (by omega) v h w).mono fun _ w' ⟨he, hw⟩ => ⟨v, _, he, by
      rcases hw with rfl | ⟨t, rfl⟩
      · exact Below.refl _ _
      · exact below_bytes _ _ _, .inl ⟨rfl, rfl⟩⟩
  · obtain ⟨tp, p, hv⟩ := hE.syn
    exact (Tryd.strconv_Atoi_syntax_var s hs (by rw [h]; exact fun v hc => by cases hc) (by rw [h]; exact fun hc => by cases hc) tp p w hv).mono fun _ w' ⟨N, he, _, _, hb⟩ => ⟨0, _, he, hb, .inr ⟨rfl, _, _, rfl⟩⟩
  · obtain ⟨tp, p, hv⟩ := hE.rng
    exact (Tryd.strconv_Atoi_range_var s hs h tp p w hv).mono fun _ w' ⟨N, he, _, _, hb⟩ => ⟨_, _, he, hb, .inr ⟨rfl, _, _, rfl⟩⟩
end Go.Proofs.YtgabpbnndikheaaDoor

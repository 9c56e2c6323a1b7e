import Derived.Test.YtgabpbnndikheaaDoorCards
import Derived.Test.YtgabpbnndikheaaDoorTie
import Derived.Test.YtgabpbnndikheaaDoorVb
import Derived.Test.YtgabpbnndikheaaDoorAr
import Derived.WalkKit
import Derived.ProofKit
import Derived.OpenShut
import Derived.ShutString
import Derived.ChangeOld
import Derived.Below
import Derived.SizedLaws
import Derived.Carry
import Derived.Lib.LaidU8
import Derived.Lib.LaidTab
import Derived.Lib.SmallJoins
import Derived.MakeChecks
import Derived.Lay
/-! What a row's list gives ('Env'); an api.Value as it comes in. -/
namespace Go.Proofs.YtgabpbnndikheaaDoor
open Go.ChangeShapes Go.WideShapes Go.ChangeAt Go.RowKit Go.Joins

theorem iface_of_reads {P : Program} {w : World} {n s : String} {d : DataW Unit} {t : TypeId} {ms : Array (String × TypeId)} (h : Lib.VarReads P w n (.iface s d)) (ht : ((P.globalNamed n).bind fun g => (P.globals[g]?).map (·.type)) = some t) (hu : P.underlying t = some (.interface ms)) :
    ∃ tp p, w.var? P n = some #[.iface tp p] := by
  obtain ⟨g', t', cs, fuel, p, hg', ht', hv, hd⟩ := h
  rw [hg', Option.bind_some] at ht
  obtain rfl := Option.some.inj (ht.symm.trans ht')
  obtain ⟨l⟩ := cs
  obtain ⟨_, u, v, e, _, _⟩ := iface_of_trod hu hd
  simp only at e
  subst e
  exact ⟨u, v, hv⟩
theorem tab_of_reads {P : Program} {w : World} {n : String} {k : IntKind} {zs : List Int} {t e : TypeId} {m : Nat} (h : Lib.VarReads P w n (Lib.tabData k zs)) (hty : ((P.globalNamed n).bind fun g => (P.globals[g]?).map (·.type)) = some t)
    (ht : P.underlying t = some (.array m e)) (he : P.underlying e = some (.int k)) (hce : P.cellsOf e = 1) (hct : P.cellsOf t = m) : Lib.TabIs P w n k zs := by
  obtain ⟨g', t', cs, fuel, p, hg', ht', hv, hd⟩ := h
  rw [hg', Option.bind_some] at hty
  obtain rfl := Option.some.inj (hty.symm.trans ht')
  unfold Lib.TabIs
  rw [hv, ← Lib.cells_of_tab ht he hce hct hd]
set_option maxRecDepth 100000 in
theorem env_of_laid {w : World} {l : List (String × DataW Unit)} (h : laidMet Tryd.prog l w) (h1 : ("strconv.ErrSyntax", Rows.laid_strconv_ErrSyntax) ∈ l) (h2 : ("strconv.ErrRange", Rows.laid_strconv_ErrRange) ∈ l) (h3 : ("internal/strconv.uint64pow10", Rows.laid_internal_strconv_uint64pow10) ∈ l) : Env w :=
  ⟨iface_of_reads (Lib.laidMet.reads h h1) (by kernel_rfl) Tryd.underlying57, iface_of_reads (Lib.laidMet.reads h h2) (by kernel_rfl) Tryd.underlying57,
    tab_of_reads (zs := Lib.pow10Tab) (Lib.laidMet.reads h h3) (by kernel_rfl) Tryd.underlying158 Tryd.underlying122 (by kernel_rfl) (by kernel_rfl)⟩

set_option maxRecDepth 100000 in
theorem open_val {H : Type} {enc : TypeId × Value → H} {W : World} {base : Nat} {spare : Nat → Bool} {held : Bool} {r : Reach} {b0 : Nat} {v : Value} {d : DataW H} {p : List MemPlace} (hv : Value.okWide Tryd.prog W r b0 23 v) (h : DataW.Trod enc Tryd.prog W base spare held 23 v d p) :
    ∃ x : Val, v = x.v ∧ d = .agg [.lit (.int .i64 x.kind), .lit (.int .i64 x.n), .lit (.string x.s.data.toList), .lit (.bool x.b)] ∧ (-9223372036854775808 ≤ x.kind ∧ x.kind ≤ 9223372036854775807) ∧ (-9223372036854775808 ≤ x.n ∧ x.n ≤ 9223372036854775807) := by
  obtain ⟨v0, v1, v2, v3, y0, y1, y2, y3, n, rfl, rfl, rfl, h0, h1, h2, h3⟩ := open_agg4 Tryd.underlying23 (by kernel_rfl) (by kernel_rfl) hv h
  obtain ⟨a, e0, rfl, w0⟩ := DataW.trod_int (k := .i64) (by kernel_rfl) h0
  obtain ⟨b, e1, rfl, w1⟩ := DataW.trod_int (k := .i64) (by kernel_rfl) h1
  obtain ⟨s, e2, rfl, w2⟩ := DataW.trod_string (by kernel_rfl) h2
  obtain ⟨q, e3, rfl⟩ := DataW.trod_bool (by kernel_rfl) h3
  simp only [List.cons.injEq, and_true] at e0 e1 e2 e3
  subst e0 e1 e2 e3
  exact ⟨⟨a, b, s, q⟩, rfl, rfl, wf_i64 w0, wf_i64 w1⟩
set_option maxRecDepth 100000 in
theorem sized_val {H : Type} {ts : List TypeId} {ds : List (DataW H)} {j : Nat} {x : Val} (h : (DataW.weightsEach Tryd.prog ts ds).all (· ≤ reachBytes) = true) (ht : ts[j]? = some 23)
    (hd : ds[j]? = some (.agg [.lit (.int .i64 x.kind), .lit (.int .i64 x.n), .lit (.string x.s.data.toList), .lit (.bool x.b)])) : x.s.size ≤ 140737488351232 := by
  have := List.all_eq_true.1 h _ (DataW.weights_mem_each ht hd x.s.data.toList.length (by simp [DataW.weights, DataW.weightsEach, Tryd.underlying23]))
  have h2 := of_decide_eq_true this
  rw [Array.length_toList] at h2
  exact h2
end Go.Proofs.YtgabpbnndikheaaDoor

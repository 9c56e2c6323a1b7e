import Derived.Test.YtgabpbnndikheaaDoorGe
set_option linter.constructorNameAsVariable false
/-! Segments: the points that two have in common. -/
namespace Go.Proofs.YtgabpbnndikheaaDoor
open Go.RowKit Go.Proofs.YtgabpbnndikheaaDoorW.PrintWords

/-- The cells of a point. -/
def PtC (p : Pt) (cs : List Value) : Prop := cs = [.int .i64 p.x, .int .i64 p.y]
/-- A row of points that is read. -/
def RdP (w : World) (A : Option Addr) (l : List Pt) : Prop := ReadsRow PtC 2 w A l.length l
theorem RdP.at_ {w : World} {A : Option Addr} {l : List Pt} (h : RdP w A l) {i : Nat} (hi : i < l.length) :
    ∃ ad, A = some ad ∧ w.cell? (ad.add (i * 2)) = some (.int .i64 l[i].x) ∧ w.cell? ⟨(ad.add (i * 2)).block, (ad.add (i * 2)).off + 1, none⟩ = some (.int .i64 l[i].y) := by
  obtain ⟨ad, e, hc⟩ := h.2.2 (by omega)
  obtain ⟨c, hs, hr, hcell⟩ := hc i _ (List.getElem?_eq_getElem hi)
  have hr' : c = [.int .i64 l[i].x, .int .i64 l[i].y] := hr
  subst hr'
  refine ⟨ad, e, hcell 0 _ rfl, ?_⟩
  have := hcell 1 _ rfl
  rwa [add_field _ _ _ (by omega)] at this
theorem RdP.keep {w w' : World} {A : Option Addr} {l : List Pt} (h : RdP w A l) (hb : Below w.heap.size w w') : RdP w' A l := h.imp_ hb fun _ _ h => h
/-- A row of points of the call's own. -/
def OwnP (w : World) (base : Nat) (v : Value) (l : List Pt) : Prop := OwnRow PtC 73 2 w base v l
/-- The variable that holds a row of one's own. -/
def Holds (w : World) (g : Nat) (l : List Pt) : Prop := ∃ v, w.heap[g]? = some (.cells #[v] 68 (0, 0)) ∧ OwnP w (g + 1) v l

theorem holds_cell {w : World} {g t : Nat} {v : Value} (h : w.heap[g]? = some (.cells #[v] t (0, 0))) : w.cell? ⟨g, 0, none⟩ = some v ∧ ∀ i, w.frozen? ⟨g, i, none⟩ = false := ⟨by simp [World.cell?, h], fun i => by simp [World.frozen?, h]⟩
theorem take_next {α : Type} {P : α → Prop} {l : List α} {i : Nat} (hi : i < l.length) (h : ∀ x ∈ l.take i, P x) (hx : P l[i]) : ∀ x ∈ l.take (i + 1), P x := by
  intro x hm
  rw [List.take_add_one, List.getElem?_eq_getElem hi] at hm
  rcases List.mem_append.1 hm with hm | hm
  · exact h x hm
  · have : x = l[i] := by simpa using hm
    rw [this]
    exact hx
def addPt (l : List Pt) (p q r : Pt) : List Pt := if onSeg q r p && !l.contains p then l ++ [p] else l
set_option maxRecDepth 100000 in
theorem add_any (p q r : Pt) (g : Nat) (l : List Pt) (w : World) (h : Holds w g l) (hl : l.length < 1000) :
    Calls Tryd.prog 150 #[p.v, q.v, r.v, .pointer (some ⟨g, 0, none⟩)] w fun e w' => e = .returned (.tuple #[]) ∧ Below g w w' ∧ Holds w' g (addPt l p q r) := by
  have C1 := Aside0.mk fun W => on_any q r p W
  unfold addPt
  generalize onSeg q r p = m at *
  obtain ⟨px, py⟩ := p
  obtain ⟨qx, qy⟩ := q
  obtain ⟨rx, ry⟩ := r
  simp only [Pt.v] at *
  obtain ⟨v, hg, HO⟩ := h
  have hgw : Aside0 (g < w.heap.size) := ⟨(Array.getElem?_eq_some_iff.1 hg).1⟩
  have H := Aside0.mk HO
  have HG := Aside0.mk hg
  clear HO hg
  cases hm : m
  · subst hm
    go_enter Tryd.func150, Tryd.ntmps150
    go_wp2_with (go_at_call 151; refine boxP3c fun w0 HB0 HX HY HZ => ?_; refine (C1.out _).mono ?_; rintro e w1 ⟨rfl, hB⟩; have HB1 := Aside0.mk (below_call HB0.out hB); clear hB HB0 HX HY HZ)
    exact bodyPost_ret (v := .tuple #[]) (by simp [results, Tryd.results150]) rfl ⟨rfl, HB1.out.mono (Nat.le_of_lt hgw.out), v, (HB1.out.block g hgw.out).trans HG.out, OwnRow.below H.out HB1.out⟩
  · subst hm
    rw [Bool.true_and]
    obtain ⟨R, hR⟩ : ∃ R, R = (if (!l.contains (⟨px, py⟩ : Pt)) = true then l ++ [⟨px, py⟩] else l) := ⟨_, rfl⟩
    rw [← hR]
    have HR := Aside0.mk hR
    clear hR
    go_enter Tryd.func150, Tryd.ntmps150
    go_wp2_with (go_at_call 151; refine boxP3c fun w0 HB0 HX HY HZ => ?_; refine (C1.out _).mono ?_; rintro e w1 ⟨rfl, hB⟩; have HB1 := Aside0.mk (below_call HB0.out hB); have H1 := Aside0.mk (OwnRow.below H.out HB1.out); have HG1 := Aside0.mk ((HB1.out.block g hgw.out).trans HG.out); obtain ⟨A, c, rfl, -, HRd⟩ := OwnRow.reads H1.out; have HR1 : Aside0 (RdP w1 A l) := ⟨HRd⟩; clear HRd; obtain ⟨k0, f0⟩ := holds_cell HG1.out; obtain ⟨k1, k2⟩ := (HX.out.keep hB).cs; simp only at k1 k2; clear hB HB0 HX HY HZ)
    go_loopw [16] (fun u wr => ∃ i : Nat, u = .int .i64 i ∧ i ≤ l.length ∧ Aside0 (∀ x ∈ l.take i, x ≠ ⟨px, py⟩) ∧ Aside0 (Below w1.heap.size w1 wr)) (fun u _ => l.length - (intOf u).toNat)
    case atStart => exact ⟨0, rfl, Nat.zero_le _, ⟨by simp⟩, ⟨Below.refl _ _⟩⟩
    case round =>
      obtain ⟨i, rfl, hi0, HN, HB⟩ := hrel
      have HRr := Aside0.mk (HR1.out.keep HB.out)
      have k3 := pw_cell_below HB.out k1
      have k4 := pw_cell_below HB.out k2
      have k7 := fun o => pw_cell_below (Below.alloc (Below.refl wr.heap.size wr) (Nat.le_refl _) o) k3
      have k8 := fun o => pw_cell_below (Below.alloc (Below.refl wr.heap.size wr) (Nat.le_refl _) o) k4
      by_cases hi : i < l.length
      · have hd : decide ((i : Int) < (l.length : Int)) = true := by simp; omega
        have hdd : ¬ l.length ≤ i := by omega
        obtain ⟨ad, rfl, k5, k6⟩ := HRr.out.at_ hi
        have HE := Aside0.mk (rfl : l[i] = l[i])
        generalize hx : l[i] = x at k5 k6 HE
        obtain ⟨ex, ey⟩ := x
        simp only at k5 k6
        have HX := Aside0.mk hx
        clear hx HE
        by_cases h1 : ex = px
        · by_cases h2 : ey = py
          · subst h1 h2
            go_wp2
            refine bodyPost_ret (v := .tuple #[]) (by simp [results, Tryd.results150]) rfl ⟨rfl, (below_alloc' (below_call HB1.out HB.out) _).mono (Nat.le_of_lt hgw.out), ?_⟩
            have hc : l.contains (⟨ex, ey⟩ : Pt) = true := by
              rw [List.contains_iff_mem]
              rw [← HX.out]
              exact List.getElem_mem hi
            rw [HR.out, hc]
            exact ⟨_, ((Below.alloc HB.out HB.out.size _).block g (Nat.lt_of_lt_of_le hgw.out HB1.out.size)).trans HG1.out, OwnRow.below H1.out (Below.alloc HB.out HB.out.size _)⟩
          · go_wp2
            go_roundw
            case rel => exact ⟨i + 1, rfl, by omega, ⟨take_next hi HN.out (by rw [HX.out]; intro e; injection e with e1 e2; exact h2 e2)⟩, ⟨below_alloc' HB.out _⟩⟩
            case measure => simp only [intOf]; omega
        · go_wp2
          go_roundw
          case rel => exact ⟨i + 1, rfl, by omega, ⟨take_next hi HN.out (by rw [HX.out]; intro e; injection e with e1 e2; exact h1 e1)⟩, ⟨below_alloc' HB.out _⟩⟩
          case measure => simp only [intOf]; omega
      · have hd : decide ((i : Int) < (l.length : Int)) = false := by simp; omega
        have k9 := pw_cell_below HB.out k0
        have HBB := Aside0.mk (below_call HB1.out HB.out)
        obtain ⟨inner, how, hrep⟩ := OwnRow.below H1.out HB.out
        have HOW := Aside0.mk how
        have HRE := Aside0.mk hrep
        clear how hrep
        go_wp2_with (at_builtin;  refine print_append_cells (w0 := w) (g + 1) rfl (.tmp 24) (.tmp 26) 68 73 (.agg #[.int .i64 0, .int .i64 0]) 2 16 rfl Tryd.underlying68 (by kernel_rfl) rfl (by decide) (by decide) _ l.length inner [.int .i64 px, .int .i64 py] rfl rfl rfl (by simp [Value.oneCell']) HOW.out (HBB.out.mono hgw.out) (Nat.le_trans hgw.out HBB.out.size) (by omega) ?_; intro v1 w2 hown hb2 hgr hat; obtain ⟨A1, cc1, rfl⟩ := own_slice hown; have HOW2 := Aside0.mk hown; have HB2 := Aside0.mk hb2; obtain ⟨k10, f10⟩ := holds_cell ((hb2.block g (Nat.lt_succ_self g)).trans HG.out); clear hown hb2 hgr hat)
        refine ⟨rfl, .tuple #[], by simp [results, Tryd.results150], rfl, (HB2.out.mono (Nat.le_succ g)).setCell (Nat.le_refl g) _, ?_⟩
        have hnc : l.contains (⟨px, py⟩ : Pt) = false := by
          cases hc : l.contains (⟨px, py⟩ : Pt) with
          | false => rfl
          | true =>
            rw [List.contains_iff_mem] at hc
            rw [List.take_of_length_le (by omega)] at HN
            exact absurd rfl (HN.out _ hc)
        rw [HR.out, hnc]
        have hcg : w2.heap[g]? = some (.cells #[.slice A l.length c] 68 (0, 0)) := (HB2.out.block g (Nat.lt_succ_self g)).trans HG.out
        refine ⟨.slice A1 (l.length + 1) cc1, ?_, ?_⟩
        · simp [World.setCell, Array.getElem?_modify, hcg]
        · have hO : OwnP w2 (g + 1) (.slice A1 (l.length + 1) cc1) (l ++ [⟨px, py⟩]) := ⟨_, by rw [List.length_append]; exact HOW2.out, HRE.out.snoc rfl rfl⟩
          exact OwnRow.set_ hO hcg (by decide) 0 _
end Go.Proofs.YtgabpbnndikheaaDoor

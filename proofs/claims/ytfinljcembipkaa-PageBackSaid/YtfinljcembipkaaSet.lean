/- page.Set. -/
import Derived.Test.YtfinljcembipkaaOwn
import Derived.Laws.OwnMore
namespace Go.Proofs.Ytfinljcembipkaa
open Go.RowKit
set_option linter.unusedVariables false

/-- cells with other data at one place -/
def setF (f : Nat → Cel) (pos : Nat) (s : ByteArray) (i : Nat) : Cel := if i = pos then ((f pos).1, s) else f i
theorem setF_good {n : Nat} {f : Nat → Cel} (hg : ¬ AnyBad f n) (pos : Nat) (s : ByteArray) (hs : 0 < s.size) : ¬ AnyBad (setF f pos s) n := by
  rintro ⟨i, hi, hb⟩
  have h1 := good_at hg i hi
  have e1 : ∀ j, (setF f pos s j).1 = (f j).1 := fun j => by unfold setF; split <;> simp_all
  unfold BadF at hb
  rw [e1, e1] at hb
  rcases hb with h | h | ⟨h, h'⟩ | h
  · omega
  · omega
  · have := line_lt hg (i - 1) i (by omega) hi; omega
  · unfold setF at h
    split at h
    · have h' : s.size = 0 := h
      omega
    · omega

theorem frozen_ext {a b : World} (h : Ext a b) {p : Addr} (hp : p.block < a.heap.size) : b.frozen? p = a.frozen? p := World.frozen?_of_block (h.block hp)
set_option maxHeartbeats 2000000 in
theorem set_hit (p : ByteArray) (x : Int) (s : ByteArray) (w : World) (hv : ValidR p) (hs : 0 < s.size) (hs2 : s.size ≤ 140737488355328) (hx : 1 ≤ x ∧ x ≤ 200) (pos : Nat) (hpos : pos < cnt p) (hp : PosI (cnt p) (cel p) x pos) (he : (cel p pos).1 = x) :
    Calls Try.prog 34 #[.string p, .int .i64 x, .string s] w fun e w' => e = .returned (.tuple #[.string (filledRes p.size (cnt p) (setF (cel p) pos s)).1, .int .i64 (filledRes p.size (cnt p) (setF (cel p) pos s)).2]) ∧ Ext w w' := by
  obtain ⟨z1, z2⟩ := sizes_of hv
  have hG := cel_good hv
  have hn := cnt_le hv
  have hS := cel_size hv
  have hlb : lineB x = true := by simp [lineB]; omega
  have hA := fun W => asked_ok p x W hv (by omega) (by omega)
  rw [hlb, if_pos rfl] at hA
  have hsb := hv.1.1
  have d3 : s.toList.isEmpty = false := by
    have : s.toList ≠ [] := by rw [ne_eq, toList_nil]; omega
    simpa using this
  have hC := fun W => cellsOwn_any p W hv
  have hfil : ∀ A cap W, SlC W A (cnt p) (setF (cel p) pos s) → Calls Try.prog 50 #[.int .i64 p.size, .slice A (cnt p) cap] W fun e w' => e = .returned (.tuple #[.string (filledRes p.size (cnt p) (setF (cel p) pos s)).1, .int .i64 (filledRes p.size (cnt p) (setF (cel p) pos s)).2]) ∧ Ext W w' := fun A cap W h =>
    filled_any p.size A cap (cnt p) _ W hn h (setF_good hG pos s hs) (fun i hi => by unfold setF; split; exact hs2; exact hS i hi) hsb
  have hfind := fun A cap W h => find_any A cap (cnt p) (cel p) x W hn h hG hx pos hp
  rw [decide_eq_true (⟨hpos, he⟩ : pos < cnt p ∧ (cel p pos).1 = x)] at hfind
  go_enter Try.func34, Try.ntmps34
  go_wp2_with (first
    | (go_at_call 62; refine (hA _).mono ?_; rintro e w1 ⟨rfl, hx1⟩)
    | (go_at_call 45; refine (hC _).mono ?_; rintro e w2 ⟨v, rfl, hown, hx2⟩))
  have hlen : (usedL p (twoF p 0)).length = cnt p := rfl
  rcases id hown.2 with ⟨_, h0⟩ | ⟨g, cap, cur, rfl, hgb, _⟩
  · omega
  have hsl : SlC w2 (some ⟨g, 0, none⟩) (cnt p) (cel p) := by
    obtain ⟨A', cap', hv', hs'⟩ := slC_of_row hown
    simp only [Value.slice.injEq] at hv'
    rw [hv'.1]; exact hs'
  have hst := hown.stored (pos * 2 + 1) (.string s)
  have hgw : w1.heap.size ≤ g := hgb
  obtain ⟨b', off', hbo, g1, g2⟩ := hsl.at_ pos hpos
  simp only [Option.some.injEq, Addr.mk.injEq] at hbo
  obtain ⟨rfl, rfl, _⟩ := hbo
  have gf := hown.frozenAt (pos * 2 + 1)
  rw [hlen] at hown hst ⊢
  have hnew : ∀ W, SlC W (some ⟨g, 0, none⟩) (cnt p) (cel p) → SlC (W.setCell ⟨g, pos * 2 + 1, none⟩ (.string s)) (some ⟨g, 0, none⟩) (cnt p) (setF (cel p) pos s) := fun W hW => by
    refine ⟨fun i hi => ?_⟩
    obtain ⟨b3, o3, e3, c1, c2⟩ := hW.at_ i hi
    simp only [Option.some.injEq, Addr.mk.injEq] at e3
    obtain ⟨rfl, rfl, _⟩ := e3
    rw [Nat.zero_add] at c1 c2
    refine ⟨g, 0, rfl, ?_, ?_⟩
    · rw [Nat.zero_add, World.cell?_setCell_other _ _ _ _ (fun e => by have := congrArg Addr.off e; simp at this; omega), c1]
      unfold setF
      split
      · rename_i h; rw [h]
      · rfl
    · rw [Nat.zero_add]
      unfold setF
      split
      · rename_i h
        subst h
        exact World.cell?_setCell_same' _ _ _ (by rw [c2]; rfl)
      · rename_i h
        rw [World.cell?_setCell_other _ _ _ _ (fun e => by have := congrArg Addr.off e; simp at this; omega), c2]
  have q1 : (pos : Int) < cnt p := by omega
  rw [Nat.zero_add] at g1 g2
  go_wp2_with (first
    | (go_at_call 63; refine (hfind _ cap _ hsl).mono ?_; rintro e w3 ⟨rfl, hx3⟩; have k2 := hx3.cell g2; have f3 : w3.frozen? ⟨g, pos * 2 + 1, none⟩ = false := (frozen_ext hx3 (block_lt g2)).trans gf)
    | (go_at_call 50; refine (hfil _ cap _ (hnew _ (hsl.ext hx3))).mono ?_; rintro e w4 ⟨rfl, hx4⟩))
  go_ret2
  exact ⟨rfl, (Ext.setCell ((hx1.trans hx2).trans hx3) (Nat.le_trans hx1.size hgw) _).trans hx4⟩
end Go.Proofs.Ytfinljcembipkaa

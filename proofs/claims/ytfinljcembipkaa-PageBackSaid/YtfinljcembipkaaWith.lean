/- reference With: cells with other data for a line. -/
import Derived.Test.YtfinljcembipkaaPutB
namespace Go.Proofs.Ytfinljcembipkaa
open Go.RowKit
set_option linter.unusedVariables false

/-- what With has behind k cells, and whether the line is done -/
def withW (f : Nat → Cel) (x : Int) (s : ByteArray) : Nat → List Cel × Bool
  | 0 => ([], s.toList.isEmpty)
  | k + 1 => if (withW f x s k).2 = false ∧ x ≤ (f k).1 then ((withW f x s k).1 ++ [(x, s)] ++ (if (f k).1 = x then [] else [f k]), true)
    else ((withW f x s k).1 ++ (if (f k).1 = x then [] else [f k]), (withW f x s k).2)
def withL (f : Nat → Cel) (x : Int) (s : ByteArray) (n : Nat) : List Cel := if (withW f x s n).2 then (withW f x s n).1 else (withW f x s n).1 ++ [(x, s)]
theorem withW_len (f : Nat → Cel) (x : Int) (s : ByteArray) : ∀ k, (withW f x s k).1.length ≤ 2 * k := by
  intro k
  induction k with
  | zero => simp [withW]
  | succ k ih =>
    unfold withW
    split <;> split <;> simp <;> omega

set_option maxRecDepth 20000 in
set_option maxHeartbeats 4000000 in
theorem refWith_any (A : Option Addr) (cap n : Nat) (f : Nat → Cel) (x : Int) (s : ByteArray) (w : World) (hn : n ≤ 200) (hs : SlC w A n f) :
    Calls Try.prog 80 #[.slice A n cap, .int .i64 x, .string s] w fun e w' => ∃ v, e = .returned v ∧ w'.ownsRow w.heap.size 45 2 v (withL f x s n).length (flatC (withL f x s n)) ∧ Ext w w' := by
  obtain ⟨i0, hi, hz0, hz1, hz2⟩ := info_parts Try.infoC
  go_enter Try.func80, Try.ntmps80
  go_wp2
  go_loopw [7, 8, 9] (fun o d k wr => ∃ j : Nat, j ≤ n ∧ k = .int .i64 j ∧ d = .bool (withW f x s j).2 ∧ wr.ownsRow w.heap.size 45 2 o (withW f x s j).1.length (flatC (withW f x s j).1) ∧ Ext w wr) (fun _ _ k _ => n - (intOf k).toNat)
  case atStart => exact ⟨0, by omega, rfl, by simp [withW], World.ownsRow_nil _ _ _ _, Ext.refl w⟩
  case round =>
    obtain ⟨j, hj, rfl, rfl, hown, hx⟩ := hrel
    have hlen := withW_len f x s j
    have happ : ∀ (W : World) (o : Value) (L : List Cel) (c : Cel), L.length ≤ 401 → W.ownsRow w.heap.size 45 2 o L.length (flatC L) → Ext w W →
        ∃ v' w', (Builtin.append_ #[22, 22] 22 #[o, .slice (some ⟨W.heap.size, 0, none⟩) 1 1]).run Try.prog (W.alloc (.cells #[.int .i64 c.1, .string c.2] 45)) = .ok v' w' ∧ w'.ownsRow w.heap.size 45 2 v' (L ++ [c]).length (flatC (L ++ [c])) ∧ Ext w w' := fun W o L c hl ho hxW => by
      obtain ⟨v', w', hr, ho', hg, _, _⟩ := append_cell (W.alloc (.cells #[.int .i64 c.1, .string c.2] 45)) w.heap.size o L.length (flatC L) (ownsRow_ext ho ((Ext.refl W).alloc _)) ⟨W.heap.size, 0, none⟩ (.int .i64 c.1) (.string c.2) (two_cells _ _ _ _) rfl rfl (by omega) (by have := hxW.size; simp; omega)
      refine ⟨v', w', hr, by rw [List.length_append, flatC_snoc]; exact ho', Below.grown (hxW.alloc _) hg (hxW.alloc _).size (fun k hk => (ho.lt k hk).1)⟩
    by_cases hlt : j < n
    · obtain ⟨b, off, rfl, g1, g2⟩ := hs.at_ j hlt
      have k1 := hx.cell g1
      have k2 := hx.cell g2
      have hbl := block_lt g1
      have eu : withW f x s (j + 1) = if (withW f x s j).2 = false ∧ x ≤ (f j).1 then ((withW f x s j).1 ++ [(x, s)] ++ (if (f j).1 = x then [] else [f j]), true)
        else ((withW f x s j).1 ++ (if (f j).1 = x then [] else [f j]), (withW f x s j).2) := rfl
      obtain ⟨L, hL⟩ : ∃ L, (withW f x s j).1 = L := ⟨_, rfl⟩
      obtain ⟨d, hd⟩ : ∃ d, (withW f x s j).2 = d := ⟨_, rfl⟩
      rw [hL, hd] at eu
      rw [hL] at hown hlen
      rw [hd]
      clear hL hd
      cases d with
      | true =>
        rw [if_neg (by simp)] at eu
        by_cases hc : (f j).1 = x
        · rw [if_pos hc, List.append_nil] at eu
          have HE := Lib.hid eu
          rw [hc] at g1 k1
          clear eu happ hc
          go_wp2
          exact ⟨⟨j + 1, by omega, by go_num, by rw [HE.out], by rw [HE.out]; exact hown, hx⟩, by simp [intOf]; omega⟩
        · rw [if_neg hc] at eu
          have HE := Lib.hid eu
          obtain ⟨v', w7, hr, ho7, hx7⟩ := happ _ _ L (f j) (by omega) hown hx
          have hne : ((f j).1 != x) = true := by simpa using hc
          clear eu happ hc
          go_wp2_with (at_builtin; refine Lib.wpList_append_run _ rfl _ _ _ _ rfl _ _ rfl rfl _ _ hr ?_)
          exact ⟨⟨j + 1, by omega, by go_num, by rw [HE.out], by rw [HE.out]; exact ho7, hx7⟩, by simp [intOf]; omega⟩
      | false =>
        by_cases hge : x ≤ (f j).1
        · rw [if_pos ⟨rfl, hge⟩] at eu
          obtain ⟨v', w7, hr, ho7, hx7⟩ := happ _ _ L (x, s) (by omega) hown hx
          have m1 := hx7.cell g1
          have m2 := hx7.cell g2
          by_cases hc : (f j).1 = x
          · rw [if_pos hc, List.append_nil] at eu
            have HE := Lib.hid eu
            rw [hc] at g1 k1 m1
            clear eu happ hc hge
            go_wp2_with (at_builtin; refine Lib.wpList_append_run _ rfl _ _ _ _ rfl _ _ rfl rfl _ _ hr ?_)
            exact ⟨⟨j + 1, by omega, by go_num, by rw [HE.out], by rw [HE.out]; exact ho7, hx7⟩, by simp [intOf]; omega⟩
          · rw [if_neg hc] at eu
            have HE := Lib.hid eu
            obtain ⟨v9, w9, hr9, ho9, hx9⟩ := happ w7 v' (L ++ [(x, s)]) (f j) (by simp; omega) ho7 hx7
            have hne : ((f j).1 != x) = true := by simpa using hc
            clear eu happ hc
            go_wp2_with (first
              | (at_builtin; refine Lib.wpList_append_run _ rfl (.tmp 29) (.tmp 33) _ _ rfl _ _ rfl rfl _ _ hr ?_)
              | (at_builtin; refine Lib.wpList_append_run _ rfl (.tmp 42) (.tmp 47) _ _ rfl _ _ rfl rfl _ _ hr9 ?_))
            exact ⟨⟨j + 1, by omega, by go_num, by rw [HE.out], by rw [HE.out]; exact ho9, hx9⟩, by simp [intOf]; omega⟩
        · rw [if_neg (fun h => hge h.2)] at eu
          have hc : ¬ (f j).1 = x := by omega
          rw [if_neg hc] at eu
          have HE := Lib.hid eu
          obtain ⟨v', w7, hr, ho7, hx7⟩ := happ _ _ L (f j) (by omega) hown hx
          have hne : ((f j).1 != x) = true := by simpa using hc
          clear eu happ hc
          go_wp2_with (at_builtin; refine Lib.wpList_append_run _ rfl _ _ _ _ rfl _ _ rfl rfl _ _ hr ?_)
          exact ⟨⟨j + 1, by omega, by go_num, by rw [HE.out], by rw [HE.out]; exact ho7, hx7⟩, by simp [intOf]; omega⟩
    · obtain rfl : j = n := by omega
      have eL : withL f x s j = if (withW f x s j).2 then (withW f x s j).1 else (withW f x s j).1 ++ [(x, s)] := rfl
      generalize (withW f x s j).2 = d at *
      generalize (withW f x s j).1 = L at *
      cases d with
      | true =>
        rw [if_pos rfl] at eL
        have HE := Lib.hid eL
        clear eL
        go_wp2
        go_ret
        exact ⟨_, rfl, by rw [HE.out]; exact hown, hx⟩
      | false =>
        simp only [Bool.false_eq_true, if_false] at eL
        have HE := Lib.hid eL
        clear eL
        obtain ⟨v', w7, hr, ho7, hx7⟩ := happ _ _ L (x, s) (by omega) hown hx
        go_wp2_with (at_builtin; refine Lib.wpList_append_run _ rfl _ _ _ _ rfl _ _ rfl rfl _ _ hr ?_)
        go_ret
        exact ⟨_, rfl, by rw [HE.out]; exact ho7, hx7⟩
end Go.Proofs.Ytfinljcembipkaa

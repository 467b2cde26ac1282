/- page.PutAt, page.Put, page.Drop, page.Get, page.Set (its errors), page.Resize. -/
import Derived.Test.YtnileonlabpbpaaIns
namespace Go.Proofs.Ytnileonlabpbpaa
open Go.RowKit
set_option linter.unusedVariables false
set_option maxRecDepth 20000

/-- cells with one more at a place; with one less -/
def insF (f : Nat → Cel) (pos : Nat) (c : Cel) (i : Nat) : Cel := if i < pos then f i else if i = pos then c else f (i - 1)
def delF (f : Nat → Cel) (pos : Nat) (i : Nat) : Cel := if i < pos then f i else f (i + 1)
theorem nthC_ins (l : List Cel) (i : Nat) (c : Cel) (hi : i ≤ l.length) : nthC (l.take i ++ c :: l.drop i) = insF (nthC l) i c := by
  funext j
  unfold nthC insF
  have hl : (l.take i).length = i := by rw [List.length_take]; omega
  simp only [List.getD_eq_getElem?_getD]
  by_cases h1 : j < i
  · rw [if_pos h1, List.getElem?_append_left (by omega), List.getElem?_take, if_pos h1]
  · rw [if_neg h1, List.getElem?_append_right (by omega), hl]
    by_cases h2 : j = i
    · subst h2; simp
    · rw [if_neg h2]
      obtain ⟨d, hd⟩ : ∃ d, j = i + d + 1 := ⟨j - i - 1, by omega⟩
      subst hd
      rw [show i + d + 1 - i = d + 1 by omega, List.getElem?_cons_succ, List.getElem?_drop]
      rfl
theorem nthC_del (l : List Cel) (i : Nat) : nthC (l.eraseIdx i) = delF (nthC l) i := by
  funext j
  unfold nthC delF
  simp only [List.getD_eq_getElem?_getD, List.getElem?_eraseIdx]
  split <;> rfl

theorem count_le {f : Nat → Cel} {n : Nat} (hg : ¬ AnyBad f n) : n ≤ 200 := by
  have h : ∀ i, i < n → (i : Int) + 1 ≤ (f i).1 := by
    intro i
    induction i with
    | zero => intro hi; have := good_at hg 0 hi; omega
    | succ i ih =>
      intro hi
      have h1 := ih (by omega)
      have h2 := line_lt hg i (i + 1) (by omega) hi
      omega
  rcases Nat.eq_zero_or_pos n with h0 | h0
  · omega
  · have h1 := h (n - 1) (by omega)
    have h2 := good_at hg (n - 1) (by omega)
    omega
theorem ins_good {n : Nat} {f : Nat → Cel} (hg : ¬ AnyBad f n) {x : Int} {pos : Nat} (hp : PosI n f x pos) (hx : 1 ≤ x ∧ x ≤ 200) (hm : ¬ (pos < n ∧ (f pos).1 = x)) (s : ByteArray) (hs : 0 < s.size) : ¬ AnyBad (insF f pos (x, s)) (n + 1) := by
  rintro ⟨i, hi, hb⟩
  have hle := hp.le
  unfold BadF insF at hb
  by_cases h1 : i < pos
  · have g := good_at hg i (by omega)
    simp only [h1, if_true] at hb
    rcases hb with h | h | ⟨h, h'⟩ | h
    · omega
    · omega
    · rw [if_pos (by omega)] at h'
      have := line_lt hg (i - 1) i (by omega) (by omega); omega
    · omega
  · simp only [h1, if_false] at hb
    by_cases h2 : i = pos
    · subst h2
      simp only [if_true] at hb
      rcases hb with h | h | ⟨h, h'⟩ | h
      · omega
      · omega
      · rw [if_pos (by omega)] at h'
        have := hp.below (i - 1) (by omega); omega
      · omega
    · simp only [h2, if_false] at hb
      have g := good_at hg (i - 1) (by omega)
      rcases hb with h | h | ⟨h, h'⟩ | h
      · omega
      · omega
      · by_cases h3 : i - 1 = pos
        · rw [if_neg (by omega), if_pos h3] at h'
          have := hp.above (i - 1) (by omega) (by omega)
          rw [h3] at h' this
          simp only at h'
          omega
        · rw [if_neg (by omega), if_neg h3] at h'
          have := line_lt hg (i - 1 - 1) (i - 1) (by omega) (by omega); omega
      · omega
theorem del_good {n : Nat} {f : Nat → Cel} (hg : ¬ AnyBad f n) (pos : Nat) (hp : pos < n) : ¬ AnyBad (delF f pos) (n - 1) := by
  rintro ⟨i, hi, hb⟩
  unfold BadF delF at hb
  by_cases h1 : i < pos
  · have g := good_at hg i (by omega)
    simp only [h1, if_true] at hb
    rcases hb with h | h | ⟨h, h'⟩ | h
    · omega
    · omega
    · rw [if_pos (by omega)] at h'
      have := line_lt hg (i - 1) i (by omega) (by omega); omega
    · omega
  · simp only [h1, if_false] at hb
    have g := good_at hg (i + 1) (by omega)
    rcases hb with h | h | ⟨h, h'⟩ | h
    · omega
    · omega
    · split at h'
      · have := line_lt hg (i - 1) (i + 1) (by omega) (by omega); omega
      · have := line_lt hg (i - 1 + 1) (i + 1) (by omega) (by omega); omega
    · omega

theorem insert_any (L : List Cel) (v : Value) (base i : Nat) (c : Cel) (vb : Nat) (w : World) (hL : L.length ≤ 200) (hi : i ≤ L.length) (hbase : base ≤ w.heap.size) (hown : w.ownsRow base 85 2 v L.length (flatC L))
    (hv : w.heap[vb]? = some (.cells #[.int .i64 c.1, .string c.2] 85 (0, 0))) (hne : ∀ g, v.ownBlock = some g → vb ≠ g) :
    Calls Try.prog 58 #[v, .int .i64 i, .slice (some ⟨vb, 0, none⟩) 1 1] w fun e w' =>
      ∃ v', e = .returned v' ∧ w'.ownsRow base 85 2 v' (L.length + 1) (flatC (L.take i ++ c :: L.drop i)) ∧ w.grownBy w' v.ownBlock := by
  rcases Nat.lt_or_ge i L.length with hlt | hge
  · rcases id hown.2 with ⟨_, h0⟩ | ⟨g, cap, cur, rfl, _⟩
    · omega
    · by_cases hroom : L.length + 1 ≤ cap
      · exact (insert_in L g cap base i c vb w hL hlt hroom hown hv (hne g rfl)).mono fun e w' ⟨he, ho, hg⟩ => ⟨_, he, ho, hg⟩
      · exact (insert_new L g cap base i c vb w hL hlt hroom hbase hown hv).mono fun e w' ⟨h, G, he, ho, hg⟩ => ⟨_, he, ho, hg⟩
  · obtain rfl : i = L.length := by omega
    rw [List.take_length, List.drop_length]
    exact insert_end L v base c vb w hL hbase hown hv

theorem put_new (p : ByteArray) (x : Int) (s : ByteArray) (w : World) (hv : ValidR p) (hs : 0 < s.size) (hs2 : s.size ≤ 140737488355328) (hx : 1 ≤ x ∧ x ≤ 200) (pos : Nat) (hp : PosI (cnt p) (cel p) x pos) (he : ¬ (pos < cnt p ∧ (cel p pos).1 = x)) :
    Calls Try.prog 46 #[.string p, .int .i64 x, .string s] w fun e w' => e = .returned (.tuple #[.string (filledRes p.size (cnt p + 1) (insF (cel p) pos (x, s))).1, .int .i64 (filledRes p.size (cnt p + 1) (insF (cel p) pos (x, s))).2]) ∧ Ext w w' := by
  obtain ⟨z1, z2⟩ := sizes_of hv
  have hG := cel_good hv
  have hn := cnt_le hv
  have hS := cel_size hv
  have hlb : lineB x = true := by simp [lineB]; omega
  have hA := fun W => asked_ok p x W hv (by omega) (by omega)
  rw [hlb, if_pos rfl] at hA
  have hsb := hv.1.1
  have d3 : s.toList.isEmpty = false := by
    have : s.toList ≠ [] := by rw [ne_eq, toList_nil]; omega
    simpa using this
  have hC := fun W => cellsOwn_any p W hv
  have hG2 := ins_good hG hp hx he s hs
  have hn2 := count_le hG2
  have hfil : ∀ A cap W, SlC W A (cnt p + 1) (insF (cel p) pos (x, s)) → Calls Try.prog 51 #[.int .i64 p.size, .slice A (cnt p + 1) cap] W fun e w' => e = .returned (.tuple #[.string (filledRes p.size (cnt p + 1) (insF (cel p) pos (x, s))).1, .int .i64 (filledRes p.size (cnt p + 1) (insF (cel p) pos (x, s))).2]) ∧ Ext W w' := fun A cap W h =>
    filled_any p.size A cap (cnt p + 1) _ W hn2 h hG2 (fun i hi => by unfold insF; split; exact hS i (by have := hp.le; omega); split; exact hs2; exact hS (i - 1) (by omega)) hsb
  have hfind := fun A cap W h => find_any A cap (cnt p) (cel p) x W hn h hG hx pos hp
  rw [decide_eq_false he] at hfind
  have hlen : (usedL p (twoF p 0)).length = cnt p := rfl
  have hle := hp.le
  go_enter Try.func46, Try.ntmps46
  go_wp2_with (first
    | (go_at_call 47; refine (hA _).mono ?_; rintro e w1 ⟨rfl, hx1⟩)
    | (go_at_call 48; refine (hC _).mono ?_; rintro e w2 ⟨v, rfl, hown, hx2⟩))
  obtain ⟨A, cap, rfl, hsl⟩ := slC_of_row hown
  have hb : ∀ g, (Value.slice A (usedL p (twoF p 0)).length cap).ownBlock = some g → g < w2.heap.size := fun g hg => (hown.lt g hg).2
  go_wp2_with (go_at_call 49; refine (hfind A cap _ hsl).mono ?_; rintro e w3 ⟨rfl, hx3⟩)
  have hw3 : w2.heap.size ≤ w3.heap.size := hx3.size
  have hz13 : w1.heap.size ≤ w3.heap.size := Nat.le_trans hx2.size hw3
  go_wp2_with (first
    | (go_at_call 58
       refine (insert_any (usedL p (twoF p 0)) (.slice A (usedL p (twoF p 0)).length cap) w1.heap.size pos (x, s) w3.heap.size _ (by omega) (by omega) (by simp; omega) (ownsRow_ext hown (hx3.alloc _)) (World.alloc_heap_new _ _) (fun g hg => by have := hb g hg; omega)).mono ?_
       rintro e w5 ⟨v', rfl, hown5, hgr5⟩)
    | (go_at_call 51
       have hl5 : ((usedL p (twoF p 0)).take pos ++ (x, s) :: (usedL p (twoF p 0)).drop pos).length = (usedL p (twoF p 0)).length + 1 := by simp; omega
       rw [← hl5] at hown5
       obtain ⟨A5, cap5, rfl, hs5⟩ := slC_of_row hown5
       rw [nthC_ins _ _ _ (by omega), hl5] at hs5
       rw [hl5]
       refine (hfil A5 cap5 _ hs5).mono ?_
       rintro e w6 ⟨rfl, hx6⟩))
  go_ret2
  have hx5 : Ext w w5 := Below.grown (((hx1.trans hx2).trans hx3).alloc (.cells #[.int .i64 x, .string s] 85)) hgr5 ((((hx1.trans hx2).trans hx3).alloc _).size) (fun k hk => Nat.le_trans hx1.size (hown.lt k hk).1)
  exact ⟨rfl, hx5.trans hx6⟩

theorem putAt_empty (p : ByteArray) (x : Int) (s : ByteArray) (w : World) (hs : s.toList = []) :
    Calls Try.prog 46 #[.string p, .int .i64 x, .string s] w fun e w' => e = .returned (.tuple #[.string ⟨#[]⟩, .int .i64 1]) ∧ Ext w w' := by
  go_enter Try.func46, Try.ntmps46
  go_wp2
  go_ret2
  exact ⟨rfl, Ext.refl w⟩

section
variable (p : ByteArray) (x : Int) (s : ByteArray) (w : World) (hv : ValidR p) (h0 : -9223372036854775808 ≤ x) (h1 : x ≤ 9223372036854775807) (hl : lineB x = false)
include hv h0 h1 hl
theorem putAt_line (hs : s.toList ≠ []) :
    Calls Try.prog 46 #[.string p, .int .i64 x, .string s] w fun e w' => e = .returned (.tuple #[.string ⟨#[]⟩, .int .i64 7]) ∧ Ext w w' := by
  have hA := fun W => asked_ok p x W hv h0 h1
  rw [hl] at hA
  simp only [Bool.false_eq_true, if_false] at hA
  have d3 : s.toList.isEmpty = false := by simpa using hs
  clear hs
  go_enter Try.func46, Try.ntmps46
  go_wp2_with (go_at_call 47; refine (hA _).mono ?_; rintro e w1 ⟨rfl, hx1⟩)
  go_ret2
  exact ⟨rfl, hx1⟩

theorem get_line :
    Calls Try.prog 31 #[.string p, .int .i64 x] w fun e w' => e = .returned (.tuple #[.string ⟨#[]⟩, .int .i64 7]) ∧ Ext w w' := by
  have hA := fun W => asked_ok p x W hv h0 h1
  rw [hl] at hA
  simp only [Bool.false_eq_true, if_false] at hA
  go_enter Try.func31, Try.ntmps31
  go_wp2_with (go_at_call 47; refine (hA _).mono ?_; rintro e w1 ⟨rfl, hx1⟩)
  go_ret2
  exact ⟨rfl, hx1⟩

end

section
variable (p : ByteArray) (x : Int) (s : ByteArray) (w : World) (hv : ValidR p) (hx : 1 ≤ x ∧ x ≤ 200) (pos : Nat) (hp : PosI (cnt p) (cel p) x pos)
include hv hx hp
theorem putAt_hit (hs : s.toList ≠ []) (he : pos < cnt p ∧ (cel p pos).1 = x) :
    Calls Try.prog 46 #[.string p, .int .i64 x, .string s] w fun e w' => e = .returned (.tuple #[.string ⟨#[]⟩, .int .i64 6]) ∧ Ext w w' := by
  have hA := fun W => asked_ok p x W hv (by omega) (by omega)
  have hlb : lineB x = true := by simp [lineB]; omega
  rw [hlb, if_pos rfl] at hA
  have d3 : s.toList.isEmpty = false := by simpa using hs
  clear hs
  have hC := fun W => cells_of p W hv
  have hfind := fun A cap W h => find_any A cap (cnt p) (cel p) x W (cnt_le hv) h (cel_good hv) hx pos hp
  rw [decide_eq_true he] at hfind
  go_enter Try.func46, Try.ntmps46
  go_wp2_with (first
    | (go_at_call 47; refine (hA _).mono ?_; rintro e w1 ⟨rfl, hx1⟩)
    | (go_at_call 48; refine (hC _).mono ?_; rintro e w2 ⟨A, cap, rfl, hsl, hx2⟩)
    | (go_at_call 49; refine (hfind A cap _ hsl).mono ?_; rintro e w3 ⟨rfl, hx3⟩))
  go_ret2
  exact ⟨rfl, (hx1.trans hx2).trans hx3⟩

theorem get_miss (he : ¬ (pos < cnt p ∧ (cel p pos).1 = x)) :
    Calls Try.prog 31 #[.string p, .int .i64 x] w fun e w' => e = .returned (.tuple #[.string ⟨#[]⟩, .int .i64 8]) ∧ Ext w w' := by
  have hA := fun W => asked_ok p x W hv (by omega) (by omega)
  have hlb : lineB x = true := by simp [lineB]; omega
  rw [hlb, if_pos rfl] at hA
  have hC := fun W => cells_of p W hv
  have hfind := fun A cap W h => find_any A cap (cnt p) (cel p) x W (cnt_le hv) h (cel_good hv) hx pos hp
  rw [decide_eq_false he] at hfind
  go_enter Try.func31, Try.ntmps31
  go_wp2_with (first
    | (go_at_call 47; refine (hA _).mono ?_; rintro e w1 ⟨rfl, hx1⟩)
    | (go_at_call 48; refine (hC _).mono ?_; rintro e w2 ⟨A, cap, rfl, hsl, hx2⟩)
    | (go_at_call 49; refine (hfind A cap _ hsl).mono ?_; rintro e w3 ⟨rfl, hx3⟩))
  go_ret2
  exact ⟨rfl, (hx1.trans hx2).trans hx3⟩
theorem get_hit (he : pos < cnt p ∧ (cel p pos).1 = x) :
    Calls Try.prog 31 #[.string p, .int .i64 x] w fun e w' => e = .returned (.tuple #[.string (cel p pos).2, .int .i64 0]) ∧ Ext w w' := by
  have hA := fun W => asked_ok p x W hv (by omega) (by omega)
  have hlb : lineB x = true := by simp [lineB]; omega
  rw [hlb, if_pos rfl] at hA
  have hC := fun W => cells_of p W hv
  have hfind := fun A cap W h => find_any A cap (cnt p) (cel p) x W (cnt_le hv) h (cel_good hv) hx pos hp
  rw [decide_eq_true he] at hfind
  have hlt := he.1
  have q1 : (pos : Int) < cnt p := by omega
  clear he
  go_enter Try.func31, Try.ntmps31
  go_wp2_with (first
    | (go_at_call 47; refine (hA _).mono ?_; rintro e w1 ⟨rfl, hx1⟩)
    | (go_at_call 48; refine (hC _).mono ?_; rintro e w2 ⟨A, cap, rfl, hsl, hx2⟩; obtain ⟨b, off, rfl, g1, g2⟩ := hsl.at_ pos hlt)
    | (go_at_call 49; refine (hfind _ cap _ hsl).mono ?_; rintro e w3 ⟨rfl, hx3⟩; have k2 := hx3.cell g2))
  go_ret2
  exact ⟨rfl, (hx1.trans hx2).trans hx3⟩


end



end Go.Proofs.Ytnileonlabpbpaa

/- RefC; PageA; Slots; Entries (merged by group.py) -/
import Derived.Test.YtcbainmpikcfjaaQ01
import Derived.Stop.RegionWithIn
import Derived.Sort.QuietIn
import Derived.Shelf.Abstract
import Derived.WalkSmall
namespace Go.Proofs.Ytcbainmpikcfjaa
section
open Go.RowKit
set_option linter.unusedVariables false
set_option maxRecDepth 20000

def BadF (f : Nat → Cel) (i : Nat) : Prop := (f i).1 < 1 ∨ 200 < (f i).1 ∨ (0 < i ∧ (f i).1 ≤ (f (i - 1)).1) ∨ (f i).2.size = 0
def AnyBad (f : Nat → Cel) (n : Nat) : Prop := ∃ i, i < n ∧ BadF f i
open Classical in
/-- what Fill comes to -/
noncomputable def fillRes (size : Int) (n : Nat) (f : Nat → Cel) : ByteArray × Int :=
  if AnyBad f n then (⟨#[]⟩, 1) else if sizeB size = false then (⟨#[]⟩, 7) else if roomF size f n < 0 then (⟨#[]⟩, 13) else (⟨(bufF size.toNat n f n).toArray⟩, 0)
theorem ret_pair {s t : ByteArray} {a b : Int} (h1 : s = t) (h2 : a = b) : Ending.returned (.tuple #[.string s, .int .i64 a]) = .returned (.tuple #[.string t, .int .i64 b]) := by rw [h1, h2]

theorem lines_up {f : Nat → Cel} {n : Nat} (h : ¬ AnyBad f n) : ∀ i j, i ≤ j → j < n → (f i).1 ≤ (f j).1 := by
  intro i j hij hj
  induction j with
  | zero => have : i = 0 := by omega
            subst this; exact Int.le_refl _
  | succ j ih =>
    rcases Nat.lt_or_ge i (j + 1) with h1 | h1
    · have h2 := ih (by omega) (by omega)
      have h3 : ¬ BadF f (j + 1) := fun hb => h ⟨j + 1, hj, hb⟩
      unfold BadF at h3
      simp only [Nat.add_sub_cancel] at h3
      omega
    · have : i = j + 1 := by omega
      subst this; exact Int.le_refl _
theorem good_at {f : Nat → Cel} {n : Nat} (h : ¬ AnyBad f n) (i : Nat) (hi : i < n) : 1 ≤ (f i).1 ∧ (f i).1 ≤ 200 ∧ 0 < (f i).2.size := by
  have h3 : ¬ BadF f i := fun hb => h ⟨i, hi, hb⟩
  unfold BadF at h3
  omega
theorem last_of_good {f : Nat → Cel} {n : Nat} (h : ¬ AnyBad f n) : 0 ≤ lastF f n ∧ lastF f n ≤ 200 := by
  unfold lastF
  by_cases h0 : n = 0
  · simp [h0]
  · rw [if_neg h0]; have := good_at h (n - 1) (by omega); omega
theorem fit_of_good {f : Nat → Cel} {n : Nat} {size : Nat} (h : ¬ AnyBad f n) (hn : n ≤ 200) (hs : sizeB (size : Int) = true) (hr : ¬ roomF size f n < 0) : Fit size n f := by
  simp only [sizeB, Bool.and_eq_true, decide_eq_true_eq] at hs
  refine ⟨hn, by omega, by omega, fun i hi => (good_at h i hi).1, fun i hi => ?_, fun i hi => (good_at h i hi).2.2, ?_⟩
  · unfold lastF
    rw [if_neg (by omega)]
    exact lines_up h i (n - 1) (by omega) (by omega)
  · unfold roomF at hr; omega
end
section
open Go.RowKit
set_option linter.unusedVariables false
set_option maxRecDepth 20000

theorem ofInt_i64 (a : Nat) (ha : a < 9223372036854775808) : (BitVec.ofInt 64 (a : Int)).toNat = a := by
  rw [BitVec.ofInt_natCast, BitVec.toNat_ofNat]; exact Nat.mod_eq_of_lt (by omega)
theorem i64_or_nat (a b : Nat) (ha : a < 9223372036854775808) (hb : b < 9223372036854775808) : bits .or .i64 (a : Int) (b : Int) = ((a ||| b : Nat) : Int) := by
  have hx : a ||| b < 2 ^ 63 := Nat.or_lt_two_pow (by omega) (by omega)
  show IntKind.i64.wrap ((BitVec.ofInt 64 (a : Int) ||| BitVec.ofInt 64 (b : Int)).toNat : Int) = _
  rw [BitVec.toNat_or, ofInt_i64 a ha, ofInt_i64 b hb, IntKind.wrap_i64]
  omega
theorem or_two (a b : Nat) (ha : a < 256) (hb : b < 256) : bits .or .i64 (wrap64 ((a : Int) * 256)) (b : Int) = ((256 * a + b : Nat) : Int) := by
  rw [IntWalk.wrap64_in _ ⟨by omega, by omega⟩]
  have e : (a : Int) * 256 = ((256 * a : Nat) : Int) := by omega
  rw [e, i64_or_nat _ _ (by omega) (by omega)]
  have := Nat.two_pow_add_eq_or_of_lt (i := 8) (b := b) (by omega) a
  simp only [Nat.reducePow] at this
  rw [this]
theorem set_two (L : List UInt8) (k : Nat) (x y : UInt8) (h : k + 2 ≤ L.length) : (L.set k x).set (k + 1) y = splice L k [x, y] := by
  apply List.ext_getElem
  · rw [length_splice _ _ _ (by simpa using h)]; simp
  · intro i h1 h2
    simp only [splice, List.getElem_set]
    simp only [List.length_set] at h1
    by_cases c1 : i < k
    · rw [List.getElem_append_left (by simp; omega)]
      simp [show ¬ k + 1 = i by omega, show ¬ k = i by omega]
    · rw [List.getElem_append_right (by simp; omega)]
      have hk : min k L.length = k := by omega
      by_cases c2 : i = k
      · subst c2
        simp [hk]
      · by_cases c3 : i = k + 1
        · subst c3
          simp [hk]
        · rw [List.getElem_append_right (by simp; omega)]
          simp [hk, show ¬ k + 1 = i by omega, show ¬ k = i by omega]
          congr 1
          omega
theorem hi8_val (n : Nat) (h : n ≤ 65535) : ((hi8 n).toNat : Int) = (n : Int) / 256 := by
  unfold hi8
  have : (UInt8.ofNat (n / 256)).toNat = n / 256 := by simp; omega
  rw [this]; omega
theorem lo8_val (n : Nat) : ((lo8 n).toNat : Int) = (n : Int) % 256 := by
  unfold lo8
  have : (UInt8.ofNat (n % 256)).toNat = n % 256 := by simp
  rw [this]; omega

theorem size_any (n : Int) (w : World) (h0 : -9223372036854775808 ≤ n) (h1 : n ≤ 9223372036854775807) :
    Calls Try.prog 46 #[.int .i64 n] w fun e w' => e = .returned (.bool (sizeB n)) ∧ w = w' := by
  by_cases h2 : 32 ≤ n <;> by_cases h3 : n ≤ 4096
  all_goals
    go_enter Try.func46, Try.ntmps46
    go_wp2
    go_ret
    exact ⟨ret_bool (by simp [sizeB]; try omega), rfl⟩

def lineB (n : Int) : Bool := decide (1 ≤ n) && decide (n ≤ 200)
theorem line_any (n : Int) (w : World) (h0 : -9223372036854775808 ≤ n) (h1 : n ≤ 9223372036854775807) :
    Calls Try.prog 45 #[.int .i64 n] w fun e w' => e = .returned (.bool (lineB n)) ∧ w = w' := by
  by_cases h2 : 1 ≤ n <;> by_cases h3 : n ≤ 200
  all_goals
    go_enter Try.func45, Try.ntmps45
    go_wp2
    go_ret
    exact ⟨ret_bool (by simp [lineB]; try omega), rfl⟩

theorem two_any (p : ByteArray) (i : Nat) (w : World) (hp : p.size ≤ 140737488355328) (hi : i + 1 < p.size) :
    Calls Try.prog 76 #[.string p, .int .i64 i] w fun e w' => e = .returned (.int .i64 (twoF p i)) ∧ ∃ n, w' = w.drewN n := by
  have h1 : (i : Int) < p.size := by omega
  have h2 : (i : Int) + 1 < p.size := by omega
  have h4 : (0 : Int) ≤ (i : Int) + 1 := by omega
  go_enter Try.func76, Try.ntmps76
  go_wp2
  go_quiet (fail)
  go_wp2
  go_ret
  have b1 := bt_lt p i
  have b2 := bt_lt p (i + 1)
  refine ⟨ret_int ?_, nq, rfl⟩
  simp only [get_bt, twoF, wrap_byte _ b1, wrap_byte _ b2]
  rw [or_two _ _ b1 b2]
theorem count_any (p : ByteArray) (w : World) (hp : p.size ≤ 140737488355328) (hi : 1 < p.size) :
    Calls Try.prog 71 #[.string p] w fun e w' => e = .returned (.int .i64 (twoF p 0)) ∧ ∃ n, w' = w.drewN n := by
  go_enter Try.func71, Try.ntmps71
  go_wp2_with (go_at_call 76; refine (two_any p 0 _ hp (by omega)).mono ?_; rintro e w' ⟨rfl, n, rfl⟩)
  go_ret
  exact ⟨rfl, n, rfl⟩
theorem put_any (g : Nat) (L : List UInt8) (cap : Nat) (ai ni : Int) (w : World) (hb : BB w g L) (hl : L.length = cap) (hc : cap ≤ 4096) (ha0 : 0 ≤ ai) (ha : ai + 2 ≤ cap) (hn0 : 0 ≤ ni) (hn : ni ≤ 65535) :
    Calls Try.prog 60 #[.slice (some ⟨g, 0, none⟩) cap cap, .int .i64 ai, .int .i64 ni] w fun e w' => e = .returned (.tuple #[]) ∧ BB w' g (splice L ai.toNat (ent ni.toNat)) ∧ Upd w g w' := by
  obtain ⟨at_, rfl⟩ := Int.eq_ofNat_of_zero_le ha0
  obtain ⟨n, rfl⟩ := Int.eq_ofNat_of_zero_le hn0
  have c1 := hb.cell at_ (by omega)
  have c2 := hb.cell (at_ + 1) (by omega)
  have f1 := hb.frozen at_
  have f2 := hb.frozen (at_ + 1)
  go_enter Try.func60, Try.ntmps60
  go_wp2
  go_end0
  rw [← hi8_val n (by omega), ← lo8_val n]
  refine ⟨rfl, ?_, (Upd.setCell w g at_ _).trans (Upd.setCell _ g (at_ + 1) _)⟩
  have := (hb.set_ at_ (hi8 n)).set_ (at_ + 1) (lo8 n)
  rw [set_two L at_ _ _ (by omega)] at this
  exact this
end
section
open Go.RowKit
set_option linter.unusedVariables false
set_option maxRecDepth 20000
attribute [local go_sem] Oper.semAt_some

/-- slot i of a page, as a value -/
def slotV (p : ByteArray) (i : Nat) : Value := .agg #[.int .i64 ((i : Int) + 1), .int .i64 (twoF p (2 + 4 * i)), .int .i64 (twoF p (4 + 4 * i))]

theorem slots_any (p : ByteArray) (w : World) :
    Calls Try.prog 73 #[.string p] w fun e w' => e = .returned (.func (.func 77) #[] #[.pointer (some ⟨w.heap.size, 0, none⟩)]) ∧ w' = w.alloc (.cells #[.string p] 9) := by
  go_enter Try.func73, Try.ntmps73
  go_wp2
  go_ret
  exact ⟨rfl, rfl⟩

theorem two_at (p : ByteArray) (x : Int) (i : Nat) (w : World) (hx : x = i) (hp : p.size ≤ 140737488355328) (hi : i + 1 < p.size) :
    Calls Try.prog 76 #[.string p, .int .i64 x] w fun e w' => e = .returned (.int .i64 (twoF p i)) ∧ Ext w w' := by
  subst hx
  exact (two_any p i w hp hi).mono fun e w' ⟨he, n, hw⟩ => ⟨he, hw ▸ (Ext.refl w).drewN n⟩

theorem yield_cases {e : Ending} {A B : Prop} {C : List PanicEntry → Prop} (h : (e = .returned (.bool true) ∧ A) ∨ (e = .returned (.bool false) ∧ B) ∨ ∃ ch, e = .panicked ch ∧ C ch) :
    (∃ ch, e = .panicked ch ∧ C ch) ∨ ∃ t, e = .returned (.bool t) ∧ (t = true ∧ A ∨ t = false ∧ B) := by
  rcases h with ⟨h, a⟩ | ⟨h, b⟩ | h
  · exact .inr ⟨true, h, .inl ⟨rfl, a⟩⟩
  · exact .inr ⟨false, h, .inr ⟨rfl, b⟩⟩
  · exact .inl h

theorem slots_seq (p : ByteArray) (c : Nat) (hp : p.size ≤ 140737488355328) (h2 : 1 < p.size) (hN : 2 + 4 * twoF p 0 ≤ p.size) :
    SeqP Try.prog 77 #[.pointer (some ⟨c, 0, none⟩)] (fun i => #[slotV p i]) (twoF p 0) (fun A => A.cell? ⟨c, 0, none⟩ = some (.string p)) := by
  intro l J Jx Jp W hJ hJx hK hY h0
  have hc0 := hK 0 W h0
  refine callsIn_of_wp Try.func77 rfl trivial ?_ rfl
  simp only [Try.ntmps77, List.size_toArray, List.length_cons, List.length_nil, Nat.reduceAdd, Nat.reduceSub, Array.replicate_succ, Array.replicate_zero, List.push_toArray, List.append_toArray, List.nil_append, List.cons_append]
  gi_wp2_with (refine ⟨trivial, rfl, ?_⟩; gi_at_call 71; refine (callsIn_wide.2 (count_any p _ hp h2)).mono ?_; rintro e w' ⟨rfl, n0, rfl⟩)
  gi_loopw [7] (fun i wr => ∃ k : Nat, k ≤ twoF p 0 ∧ i = .int .i64 k ∧ J k wr) (fun i _ => twoF p 0 - (intOf i).toNat)
  case atStart => exact ⟨0, by omega, rfl, hJ _ _ _ h0 ((Ext.refl W).drewN n0)⟩
  case round =>
    obtain ⟨k, hk, rfl, hj⟩ := hrel
    by_cases hlt : k < twoF p 0
    · have hc := hK _ _ hj
      have hlen : (p.size : Int) ≤ 140737488355328 := by omega
      have hb : twoF p 0 < 65536 := by have := bt_lt p 0; have := bt_lt p (0 + 1); unfold twoF; omega
      have hx0 : Ext wr wr := Ext.refl wr
      have hw1 : IntKind.i64.wrap (2 + 4 * (k : Int) + 2) = 2 + 4 * k + 2 := IntWalk.i64_in _ ⟨by omega, by omega⟩
      have hw2 : IntKind.i64.wrap ((k : Int) + 1) = k + 1 := IntWalk.i64_in _ ⟨by omega, by omega⟩
      gi_wp2
      gi_region_with (first
        | (refine ⟨trivial, rfl, ?_⟩; gi_at_call 76; refine (callsIn_wide.2 (two_at p _ (2 + 4 * k) _ (by omega) hp (by omega))).mono ?_; rintro e w1 ⟨rfl, hx1⟩; have hc1 := hx1.cell (show World.cell? (World.drew wr) ⟨c, 0, none⟩ = some (.string p) from hc); have hj1 := hJ _ _ _ hj (Ext.trans hx0.drew hx1))
        | (refine ⟨trivial, rfl, ?_⟩; gi_at_call 76; refine (callsIn_wide.2 (two_at p _ (4 + 4 * k) _ (by omega) hp (by omega))).mono ?_; rintro e w2 ⟨rfl, hx2⟩; have hj2 := hJ _ _ _ hj1 hx2; obtain ⟨fn, tmps, assign, body, hy, hR⟩ := hY k w2 hj2 hlt; simp only [slotV] at hy)
        | (refine ⟨rfl, ?_⟩; refine hR.mono ?_; intro e W3 h3; rcases yield_cases h3 with ⟨ch, rfl, hp3⟩ | ⟨t, rfl, h4⟩; exact ⟨rfl, .inr ⟨k, ch, hlt, rfl, hp3⟩⟩; skip))
      all_goals (
        clear h3
        rcases h4 with ⟨rfl, hj3⟩ | ⟨rfl, hx3⟩
        · gi_wp2
          go_roundw
          case rel => exact ⟨k + 1, by omega, by go_num, hj3⟩
          case measure => simp [intOf]; omega
        · gi_wp2
          refine bodyPost_ret (results_none rfl _ _ _) rfl ?_
          exact .inl ⟨⟨_, rfl⟩, .inr ⟨k, hlt, hx3⟩⟩)
    · obtain rfl : k = twoF p 0 := by omega
      gi_wp2
      go_end0
      exact .inl ⟨⟨_, rfl⟩, .inl hj⟩
end
section
open Go.RowKit
set_option linter.unusedVariables false
set_option maxRecDepth 20000
attribute [local go_sem] Oper.semAt_some

/-- slot k is free -/
def freeS (p : ByteArray) (k : Nat) : Prop := twoF p (2 + 4 * k) = 0 ∧ twoF p (4 + 4 * k) = 0
/-- slot k does not fit behind data that begin at top -/
def badS (p : ByteArray) (top k : Nat) : Prop := ¬ freeS p k ∧ (twoF p (4 + 4 * k) = 0 ∨ twoF p (2 + 4 * k) + twoF p (4 + 4 * k) ≠ top ∨ twoF p (2 + 4 * k) < 2 + 4 * twoF p 0)
instance (p : ByteArray) (k : Nat) : Decidable (freeS p k) := by unfold freeS; exact inferInstance
instance (p : ByteArray) (t k : Nat) : Decidable (badS p t k) := by unfold badS; exact inferInstance
/-- where the data begin behind k slots, and the last used line -/
def topF (p : ByteArray) : Nat → Nat
  | 0 => p.size
  | k + 1 => if freeS p k then topF p k else twoF p (2 + 4 * k)
def lastS (p : ByteArray) : Nat → Nat
  | 0 => 0
  | k + 1 => if freeS p k then lastS p k else k + 1
/-- the first k slots are good -/
def goodS (p : ByteArray) (k : Nat) : Prop := ∀ i, i < k → ¬ badS p (topF p i) i
theorem goodS_succ {p : ByteArray} {k : Nat} (h : goodS p k) (hb : ¬ badS p (topF p k) k) : goodS p (k + 1) := by
  intro i hi
  by_cases e : i = k
  · subst e; exact hb
  · exact h i (by omega)
theorem lastS_le (p : ByteArray) (k : Nat) : lastS p k ≤ k := by
  induction k with
  | zero => simp [lastS]
  | succ k ih =>
    unfold lastS
    split
    · omega
    · omega
theorem topF_lt (p : ByteArray) (hp : p.size ≤ 4096) (k : Nat) : topF p k < 65536 := by
  induction k with
  | zero => simp [topF]; omega
  | succ k ih =>
    unfold topF
    split
    · exact ih
    · have b1 := bt_lt p (2 + 4 * k)
      have b2 := bt_lt p (2 + 4 * k + 1)
      unfold twoF
      omega
/-- what leaves page.Wrong -/
def wrongV (at_ : Nat) (e : Int) : Value := .iface 119 (.agg #[.int .i64 at_, .int .i64 e])

set_option maxHeartbeats 2000000 in
theorem entries_any (p : ByteArray) (w : World) (h32 : 32 ≤ p.size) (hp : p.size ≤ 4096) (hN : 2 + 4 * twoF p 0 ≤ p.size) :
    Calls Try.prog 72 #[.string p] w fun e w' => Ext w w' ∧
      ((e = .returned (.int .i64 (topF p (twoF p 0))) ∧ goodS p (twoF p 0) ∧ lastS p (twoF p 0) = twoF p 0) ∨
       (∃ k, k < twoF p 0 ∧ goodS p k ∧ badS p (topF p k) k ∧ e = .panicked [{ v := wrongV (2 + 4 * k) 12, recovered := false }]) ∨
       (goodS p (twoF p 0) ∧ lastS p (twoF p 0) < twoF p 0 ∧ e = .panicked [{ v := wrongV (2 + 4 * (twoF p 0 - 1)) 12, recovered := false }])) := by
  refine calls_of_wpAt Try.func72 rfl ?_
  simp only [Try.ntmps72, List.size_toArray, List.length_cons, List.length_nil, Nat.reduceAdd, Nat.reduceSub, Array.replicate_succ, Array.replicate_zero, List.push_toArray, List.append_toArray, List.nil_append, List.cons_append]
  refine wpAt_seq_k (fun K hK => ?_)
  go_wp2
  refine wpAt_seq_k (fun K hK => ?_)
  go_wp2
  refine wpAt_seq_k (fun K hK => ?_)
  go_wp2
  refine wpAt_seq ?_
  refine wpAt_seq_k (fun K hK => ?_)
  go_wp2_with (go_at_call 73; refine (slots_any p _).mono ?_; rintro e w1 ⟨rfl, rfl⟩)
  have hb1 : Boxed ((((w.alloc (.cells #[.string p] 9)).alloc (.cells #[.int .i64 p.size] 3)).alloc (.cells #[.int .i64 0] 3)).alloc (.cells #[.string p] 9)) w.heap.size 9 (.string p) := ((((Boxed.new _ _ _).alloc _).alloc _).alloc _)
  have hb2 : Boxed ((((w.alloc (.cells #[.string p] 9)).alloc (.cells #[.int .i64 p.size] 3)).alloc (.cells #[.int .i64 0] 3)).alloc (.cells #[.string p] 9)) (w.heap.size + 1) 3 (.int .i64 p.size) := by
    have := Boxed.new (w.alloc (.cells #[.string p] 9)) 3 (.int .i64 p.size)
    rw [World.size_alloc] at this
    exact ((this.alloc _).alloc _)
  have hb3 : Boxed ((((w.alloc (.cells #[.string p] 9)).alloc (.cells #[.int .i64 p.size] 3)).alloc (.cells #[.int .i64 0] 3)).alloc (.cells #[.string p] 9)) (w.heap.size + 2) 3 (.int .i64 0) := by
    have := Boxed.new ((w.alloc (.cells #[.string p] 9)).alloc (.cells #[.int .i64 p.size] 3)) 3 (.int .i64 0)
    rw [World.size_alloc, World.size_alloc] at this
    exact this.alloc _
  have hb4 : Boxed ((((w.alloc (.cells #[.string p] 9)).alloc (.cells #[.int .i64 p.size] 3)).alloc (.cells #[.int .i64 0] 3)).alloc (.cells #[.string p] 9)) (w.heap.size + 3) 9 (.string p) := by
    have := Boxed.new (((w.alloc (.cells #[.string p] 9)).alloc (.cells #[.int .i64 p.size] 3)).alloc (.cells #[.int .i64 0] 3)) 9 (.string p)
    rw [World.size_alloc, World.size_alloc, World.size_alloc] at this
    exact this
  have hsz : ((((w.alloc (.cells #[.string p] 9)).alloc (.cells #[.int .i64 p.size] 3)).alloc (.cells #[.int .i64 0] 3)).alloc (.cells #[.string p] 9)).heap.size = w.heap.size + 4 := by simp [World.size_alloc]
  have hx0 : Ext w ((((w.alloc (.cells #[.string p] 9)).alloc (.cells #[.int .i64 p.size] 3)).alloc (.cells #[.int .i64 0] 3)).alloc (.cells #[.string p] 9)) := ((((Ext.refl w).alloc _).alloc _).alloc _).alloc _
  generalize ((((w.alloc (.cells #[.string p] 9)).alloc (.cells #[.int .i64 p.size] 3)).alloc (.cells #[.int .i64 0] 3)).alloc (.cells #[.string p] 9)) = w4 at *
  refine wpAt_block ?_
  refine wpAt_rangeFunc (hf := Try.func72) (gf := 77) (lb := #[.pointer (some ⟨w.heap.size + 3, 0, none⟩)]) rfl (enters_of Try.func77 (by kernel_rfl) rfl)
    (slots_seq p _ (by omega) (by omega) hN) (fun _ => rfl)
    (fun i W => (Boxed W w.heap.size 9 (.string p) ∧ Boxed W (w.heap.size + 1) 3 (.int .i64 (topF p i)) ∧ Boxed W (w.heap.size + 2) 3 (.int .i64 (lastS p i)) ∧ Boxed W (w.heap.size + 3) 9 (.string p)) ∧ Ext w W ∧ goodS p i)
    (fun _ _ _ => False)
    (fun i ch W => Ext w W ∧ goodS p i ∧ badS p (topF p i) i ∧ ch = [{ v := wrongV (2 + 4 * i) 12, recovered := false }])
    (fun i A B ⟨⟨h1, h2, h3, h4⟩, h5, h6⟩ hx => ⟨⟨hx.heap h1, hx.heap h2, hx.heap h3, hx.heap h4⟩, h5.trans hx, h6⟩)
    (fun _ _ _ _ h _ => h)
    (fun i A B ⟨⟨h1, h2, h3, h4⟩, h5, h6⟩ hx => ⟨⟨hx.heap h1 (by omega), hx.heap h2 (by omega), hx.heap h3 (by omega), hx.heap h4 (by omega)⟩, Upd.ext h5 hx (by omega), h6⟩)
    (fun _ _ _ _ h _ => h)
    (fun i A h => h.1.2.2.2.cell)
    ⟨⟨hb1, hb2, hb3, hb4⟩, hx0, fun i hi => by omega⟩ ?round ?done (fun _ _ _ _ h _ => h.elim) ?panic
  case round =>
    rintro i W ⟨⟨h1, h2, h3, h4⟩, hx, hg⟩ hW hi
    simp only [slotV]
    gi_wp2
    have hxa : Ext W (W.alloc (.cells #[.int .i64 (i + 1), .int .i64 (twoF p (2 + 4 * i)), .int .i64 (twoF p (4 + 4 * i))] 113)) := (Ext.refl W).alloc _
    have hn5 : (W.alloc (.cells #[.int .i64 (i + 1), .int .i64 (twoF p (2 + 4 * i)), .int .i64 (twoF p (4 + 4 * i))] 113)).heap[W.heap.size]? = some (.cells #[.int .i64 (i + 1), .int .i64 (twoF p (2 + 4 * i)), .int .i64 (twoF p (4 + 4 * i))] 113 (0, 0)) := World.alloc_heap_new _ _
    refine ⟨hxa.block (by omega), hxa.block (by omega), ?_⟩
    intro W2 hu2 hs2
    have hw2 : ∀ A, Upd W2 0 A → True := fun _ _ => trivial
    replace hn5 := hu2.heap hn5 (by omega)
    replace h1 := hu2.heap (hxa.heap h1) (by omega)
    replace h2 := hu2.heap (hxa.heap h2) (by omega)
    replace h3 := hu2.heap (hxa.heap h3) (by omega)
    replace h4 := hu2.heap (hxa.heap h4) (by omega)
    replace hx := Upd.ext (hx.trans hxa) hu2 (by omega)
    clear hxa hw2
    have g0 : W2.cell? ⟨W.heap.size, 0, none⟩ = some (.int .i64 (i + 1)) := by simp [World.cell?, hn5]
    have g1 : W2.cell? ⟨W.heap.size, 1, none⟩ = some (.int .i64 (twoF p (2 + 4 * i))) := by simp [World.cell?, hn5]
    have g2 : W2.cell? ⟨W.heap.size, 2, none⟩ = some (.int .i64 (twoF p (4 + 4 * i))) := by simp [World.cell?, hn5]
    clear hn5 hu2 hs2
    generalize W.heap.size = c5 at *
    have hwi : IntKind.i64.wrap ((i : Int) + 1 - 1) = i := by rw [Int.add_sub_cancel]; exact IntWalk.i64_in _ ⟨by omega, by omega⟩
    have b1 := bt_lt p (2 + 4 * i)
    have b2 := bt_lt p (2 + 4 * i + 1)
    have b3 := bt_lt p (4 + 4 * i)
    have b4 := bt_lt p (4 + 4 * i + 1)
    have c1 : twoF p (2 + 4 * i) < 65536 := by unfold twoF; omega
    have c2 : twoF p (4 + 4 * i) < 65536 := by unfold twoF; omega
    clear b1 b2 b3 b4
    have c3 := topF_lt p hp i
    have hq : ∀ (w : World) (n : Nat), Calls Try.prog 71 #[.string p] (w.drewN n) fun e w'' => e = .returned (.int .i64 (twoF p 0)) ∧ ∃ m, w'' = w.drewN m := fun w n => quiet_n (count_any p _ (by omega) (by omega))
    have g3 := Boxed.cell h2
    have g4 := Boxed.cell h1
    have g5 := Boxed.cell h3
    have f3 := Boxed.frozen h2
    have f5 := Boxed.frozen h3
    by_cases hf : freeS p i
    · have et : topF p (i + 1) = topF p i := by simp [topF, hf]
      have el : lastS p (i + 1) = lastS p i := by simp [lastS, hf]
      have hg' : goodS p (i + 1) := goodS_succ hg (fun hb => hb.1 hf)
      have z1 := hf.1
      have z2 := hf.2
      rw [z1] at g1
      rw [z2] at g2
      gi_wp2
      exact ⟨rfl, rfl, ⟨h1, by rw [et]; exact h2, by rw [el]; exact h3, h4⟩, hx, hg'⟩
    · have hnf := hf
      unfold freeS at hnf
      have hbad : (twoF p (4 + 4 * i) = 0 ∨ twoF p (2 + 4 * i) + twoF p (4 + 4 * i) ≠ topF p i ∨ twoF p (2 + 4 * i) < 2 + 4 * twoF p 0) → badS p (topF p i) i := fun h => ⟨hf, h⟩
      have hgood : ¬ (twoF p (4 + 4 * i) = 0 ∨ twoF p (2 + 4 * i) + twoF p (4 + 4 * i) ≠ topF p i ∨ twoF p (2 + 4 * i) < 2 + 4 * twoF p 0) → goodS p (i + 1) := fun h => goodS_succ hg (fun hb => h hb.2)
      have et : topF p (i + 1) = twoF p (2 + 4 * i) := by simp [topF, hf]
      have el : lastS p (i + 1) = i + 1 := by simp [lastS, hf]
      obtain ⟨off, hoff⟩ : ∃ off, twoF p (2 + 4 * i) = off := ⟨_, rfl⟩
      obtain ⟨len, hlen⟩ : ∃ len, twoF p (4 + 4 * i) = len := ⟨_, rfl⟩
      obtain ⟨top, htop⟩ : ∃ top, topF p i = top := ⟨_, rfl⟩
      rw [hoff] at g1 c1 hnf hbad hgood et
      rw [hlen] at g2 c2 hnf hbad hgood
      rw [htop] at g3 c3 hbad hgood
      have HT := Lib.hid htop
      have HE := Lib.hid et
      have HL := Lib.hid el
      clear hoff hlen htop et el
      by_cases hl0 : len = 0
      · have ho : ¬ off = 0 := fun h => hnf ⟨h, hl0⟩
        have hb := hbad (.inl hl0)
        have d1 : ((off : Int) = 0) = False := by simp; omega
        subst hl0
        clear hnf hbad hgood
        gi_wp2
        refine wpIn_round_quiet (by kernel_rfl) (by kernel_rfl) (by kernel_rfl) ?_
        repeat (go_big_quiet_step (fail))
        refine wpQuiet_nil ?_
        intro _ hw'
        obtain ⟨nq, rfl⟩ := hw'
        gi_wp2
        exact ⟨rfl, rfl, hx.drewN _, hg, by rw [HT.out]; exact hb, rfl⟩
      · have d2 : ((len : Int) == 0) = false := by simp; omega
        have d1 : ((len : Int) = 0) = False := by simp; omega
        by_cases ht : off + len = top
        · subst ht
          have hws : IntKind.i64.wrap (off : Int) = off := IntWalk.i64_in _ ⟨by omega, by omega⟩
          have hws2 : IntKind.i64.wrap (((off + len : Nat) : Int) - len) = off := by rw [Int.natCast_add, Int.add_sub_cancel]; exact hws
          by_cases hl : off < 2 + 4 * twoF p 0
          · have hb := hbad (.inr (.inr hl))
            clear hnf hbad hgood
            gi_wp2
            all_goals (
              refine wpIn_round_quiet (by kernel_rfl) (by kernel_rfl) (by kernel_rfl) ?_
              repeat (go_big_quiet_step ((go_at_call 71; exact hq _ _)))
              refine wpQuiet_nil ?_
              intro _ hw'
              obtain ⟨nq, rfl⟩ := hw'
              gi_wp2
              exact ⟨rfl, rfl, hx.drewN _, hg, by rw [HT.out]; exact hb, rfl⟩)
          · have hg' := hgood (by omega)
            clear hnf hbad hgood
            gi_wp2
            all_goals (
              refine wpIn_round_quiet (by kernel_rfl) (by kernel_rfl) (by kernel_rfl) ?_
              repeat (go_big_quiet_step ((go_at_call 71; exact hq _ _)))
              refine wpQuiet_nil ?_
              intro _ hw'
              obtain ⟨nq, rfl⟩ := hw'
              gi_wp2
              have n1 : ¬ c5 = w.heap.size + 1 := by omega
              have n2 : ¬ w.heap.size + 1 = c5 := by omega
              gi_region_with (fail)
              all_goals (
                gi_wp2
                have k1 : Boxed (W2.drewN (nq + 1)) w.heap.size 9 (.string p) := h1
                have k2 : Boxed (W2.drewN (nq + 1)) (w.heap.size + 1) 3 _ := h2
                have k3 : Boxed (W2.drewN (nq + 1)) (w.heap.size + 2) 3 _ := h3
                have k4 : Boxed (W2.drewN (nq + 1)) (w.heap.size + 3) 9 (.string p) := h4
                have kx : Ext w (W2.drewN (nq + 1)) := hx.drewN _
                have kb : ∀ k, k ≠ w.heap.size + 1 → k ≠ w.heap.size + 2 → (((W2.drewN (nq + 1)).setCell ⟨w.heap.size + 1, 0, none⟩ (.int .i64 off)).setCell ⟨w.heap.size + 2, 0, none⟩ (.int .i64 (i + 1))).heap[k]? = W2.heap[k]? := fun k e1 e2 =>
                  (Below.heap_setCell _ _ _ k (by simpa using e2)).trans (Below.heap_setCell _ _ _ k (by simpa using e1))
                refine ⟨kb _ (by omega) (by omega), kb _ (by omega) (by omega), ⟨(k1.other (by omega) _).other (by omega) _, ?_, ?_, (k4.other (by omega) _).other (by omega) _⟩, (kx.setCell (Nat.le_add_right _ 1) _).setCell (Nat.le_add_right _ 2) _, hg'⟩
                · rw [HE.out]; exact (k2.set _).other (by omega) _
                · rw [HL.out]; exact (k3.other (by omega) _).set _))
        · have hwt : IntKind.i64.wrap ((top : Int) - len) = top - len := IntWalk.i64_in _ ⟨by omega, by omega⟩
          have hb := hbad (.inr (.inl ht))
          clear hnf hbad hgood
          rcases Nat.eq_zero_or_pos off with h0 | h0
          · subst h0
            have d3 : ((0 : Int) != (top : Int) - len) = true := by simp; omega
            gi_wp2
            refine wpIn_round_quiet (by kernel_rfl) (by kernel_rfl) (by kernel_rfl) ?_
            repeat (go_big_quiet_step ((go_at_call 71; exact hq _ _)))
            refine wpQuiet_nil ?_
            intro _ hw'
            obtain ⟨nq, rfl⟩ := hw'
            gi_wp2
            exact ⟨rfl, rfl, hx.drewN _, hg, by rw [HT.out]; exact hb, rfl⟩
          · have d3 : ((off : Int) != (top : Int) - len) = true := by simp; omega
            have d5 : ((off : Int) = 0) = False := by simp; omega
            gi_wp2
            refine wpIn_round_quiet (by kernel_rfl) (by kernel_rfl) (by kernel_rfl) ?_
            repeat (go_big_quiet_step ((go_at_call 71; exact hq _ _)))
            refine wpQuiet_nil ?_
            intro _ hw'
            obtain ⟨nq, rfl⟩ := hw'
            gi_wp2
            exact ⟨rfl, rfl, hx.drewN _, hg, by rw [HT.out]; exact hb, rfl⟩
  case done =>
    rintro W ⟨⟨h1, h2, h3, h4⟩, hx, hg⟩ hD
    have hq : ∀ (w : World) (n : Nat), Calls Try.prog 71 #[.string p] (w.drewN n) fun e w'' => e = .returned (.int .i64 (twoF p 0)) ∧ ∃ m, w'' = w.drewN m := fun w n => quiet_n (count_any p _ (by omega) (by omega))
    have g3 := Boxed.cell h2
    have g4 := Boxed.cell h1
    have g5 := Boxed.cell h3
    have fin : ∀ n, Ext w ((W.drewN n).putObj w4.heap.size (.deferred none)) := fun n => Upd.ext (hx.drewN n) (grownBy_putObj' _ _ _) (by omega)
    have hn : twoF p 0 ≤ 1024 := by omega
    refine wpAt_of_wp ?_
    by_cases hlt : lastS p (twoF p 0) < twoF p 0
    · go_wp2
      go_quiet ((go_at_call 71; exact hq _ _))
      have hd : (lastS p (twoF p 0) : Int) < twoF p 0 := by omega
      have hwn : IntKind.i64.wrap ((twoF p 0 : Int) - 1) = twoF p 0 - 1 := IntWalk.i64_in _ ⟨by omega, by omega⟩
      go_wp2_with (go_at_call 71; refine (count_any p _ (by omega) (by omega)).mono ?_; rintro e w' ⟨rfl, n0, rfl⟩)
      refine ⟨by simp, .inl ⟨_, _, rfl, run_takeDeferred (by rw [← hsz]; exact hD), ?_⟩⟩
      rw [← hsz]
      refine ⟨fin _, .inr (.inr ⟨hg, hlt, ?_⟩)⟩
      have e : ((2 + 4 * (twoF p 0 - 1) : Nat) : Int) = 2 + 4 * ((twoF p 0 : Int) - 1) := by omega
      unfold wrongV
      rw [e]
    · have hd : ¬ (lastS p (twoF p 0) : Int) < twoF p 0 := by omega
      go_wp2
      go_quiet ((go_at_call 71; exact hq _ _))
      go_wp2
      refine ⟨by simp, .inl ⟨_, _, rfl, run_takeDeferred (by rw [← hsz]; exact hD), ?_⟩⟩
      rw [← hsz]
      refine ⟨_, results_tmp rfl _ _ _, fin _, .inl ⟨rfl, hg, ?_⟩⟩
      have := lastS_le p (twoF p 0)
      omega
  case panic =>
    rintro i ch W hi ⟨hx, hg, hb, rfl⟩ hD
    refine ⟨by simp, .inl ⟨_, _, rfl, run_takeDeferred hD, ?_⟩⟩
    exact ⟨Upd.ext hx (grownBy_putObj' _ _ _) (by omega), .inr (.inl ⟨i, hi, hg, hb, rfl⟩)⟩
end
end Go.Proofs.Ytcbainmpikcfjaa

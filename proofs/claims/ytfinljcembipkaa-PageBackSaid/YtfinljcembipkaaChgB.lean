/- PageChanges returns true. -/
import Derived.Test.YtfinljcembipkaaChgA
namespace Go.Proofs.Ytfinljcembipkaa
open Go.RowKit
set_option linter.unusedVariables false

theorem filled_valid (size m : Nat) (g : Nat → Cel) (hg : ¬ AnyBad g m) (hz : sizeB size = true) (h0 : (filledRes size m g).2 = 0) :
    (filledRes size m g).1.size = size ∧ ValidR (filledRes size m g).1 ∧ cnt (filledRes size m g).1 = m ∧ ∀ i, i < m → cel (filledRes size m g).1 i = g i := by
  have hr : ¬ roomF size g m < 0 := by
    intro h
    unfold filledRes at h0
    rw [if_pos h] at h0
    cases h0
  have hm := count_le hg
  obtain ⟨h1, h2, h3⟩ := built_page size m g hg (fit_of_good hg hm hz hr) hz (filledRes size m g).1 (by unfold filledRes; rw [if_neg hr])
  have h4 : cnt (filledRes size m g).1 = m := by unfold cnt; rw [h3]; simp
  refine ⟨h1, h2, h4, fun i hi => ?_⟩
  unfold cel
  rw [h3]
  exact nthC_listF g m i hi

/-- a call of the program and one of the reference that end alike -/
def Both2 (F G : FuncId) (args : Array Value) (r : ByteArray × Int) : Prop :=
  (∀ w, Calls Try.prog F args w fun e w' => e = two2 r ∧ Ext w w') ∧ (∀ w, Calls Try.prog G args w fun e w' => e = two2 r ∧ Ext w w')
def OthersOk (p a : ByteArray) (x : Int) : Prop := ∀ w, Calls Try.prog 40 #[.string p, .string a, .int .i64 x] w fun e w' => e = .returned (.bool true) ∧ Ext w w'

section
variable (p : ByteArray) (x : Int) (s : ByteArray) (hv : ValidR p) (h0 : -9223372036854775808 ≤ x) (h1 : x ≤ 9223372036854775807)
include hv h0 h1
theorem get_both : ∃ r, Both2 35 36 #[.string p, .int .i64 x] r := by
  cases hl : lineB x with
  | false => exact ⟨(⟨#[]⟩, 7), fun w => get_line p x w hv h0 h1 hl, fun w => refGet_line p x w hv h0 h1 hl⟩
  | true =>
    have hx : 1 ≤ x ∧ x ≤ 200 := by simp [lineB] at hl; omega
    obtain ⟨pos, hp⟩ := pos_of (cel_good hv) x
    by_cases he : pos < cnt p ∧ (cel p pos).1 = x
    · exact ⟨((cel p pos).2, 0), fun w => get_hit p x w hv hx pos hp he, fun w => refGet_hit p x w hv hx pos hp he⟩
    · exact ⟨(⟨#[]⟩, 8), fun w => get_miss p x w hv hx pos hp he, fun w => refGet_miss p x w hv hx pos hp he⟩
theorem putAt_both (hs2 : s.size ≤ 140737488355328) : ∃ r : ByteArray × Int, Both2 38 39 #[.string p, .int .i64 x, .string s] r ∧ (r.2 = 0 → OthersOk p r.1 x) := by
  by_cases hs : s.toList = []
  · exact ⟨(⟨#[]⟩, 1), ⟨fun w => putAt_empty p x s w hs, fun w => refPutAt_empty p x s w hv hs⟩, fun h => by cases h⟩
  have hs0 : 0 < s.size := by have h := hs; rw [toList_nil] at h; omega
  cases hl : lineB x with
  | false => exact ⟨(⟨#[]⟩, 7), ⟨fun w => putAt_line p x s w hv h0 h1 hl hs, fun w => refPutAt_line p x s w hv h0 h1 hl hs⟩, fun h => by cases h⟩
  | true =>
    have hx : 1 ≤ x ∧ x ≤ 200 := by simp [lineB] at hl; omega
    have hG := cel_good hv
    obtain ⟨pos, hp⟩ := pos_of hG x
    by_cases he : pos < cnt p ∧ (cel p pos).1 = x
    · exact ⟨(⟨#[]⟩, 6), ⟨fun w => putAt_hit p x s w hv hx pos hp hs he, fun w => refPutAt_hit p x s w hv hx pos hp hs he⟩, fun h => by cases h⟩
    · refine ⟨_, ⟨fun w => put_new p x s w hv hs0 hs2 hx pos hp he, fun w => refPutAt_miss p x s w hv hx pos hp hs hs2 he⟩, fun h w => ?_⟩
      obtain ⟨e1, e2, e3, e4⟩ := filled_valid p.size (cnt p + 1) _ (ins_good hG hp hx he s hs0) hv.1.1 h
      exact others_any p _ x w hv e2 h0 h1 (fun i r hne hr => by rw [e3]; exact getR_congr (getR_ins hr hne hp.le) (fun k hk => (e4 k hk).symm))
theorem set_both (hs2 : s.size ≤ 140737488355328) : ∃ r : ByteArray × Int, Both2 34 41 #[.string p, .int .i64 x, .string s] r ∧ (r.2 = 0 → OthersOk p r.1 x) := by
  by_cases hs : s.toList = []
  · exact ⟨(⟨#[]⟩, 1), ⟨fun w => set_empty p x s w hs, fun w => refSet_empty p x s w hv hs⟩, fun h => by cases h⟩
  have hs0 : 0 < s.size := by have h := hs; rw [toList_nil] at h; omega
  cases hl : lineB x with
  | false => exact ⟨(⟨#[]⟩, 7), ⟨fun w => set_line p x s w hv h0 h1 hl hs, fun w => refSet_line p x s w hv h0 h1 hl hs⟩, fun h => by cases h⟩
  | true =>
    have hx : 1 ≤ x ∧ x ≤ 200 := by simp [lineB] at hl; omega
    have hG := cel_good hv
    obtain ⟨pos, hp⟩ := pos_of hG x
    by_cases he : pos < cnt p ∧ (cel p pos).1 = x
    · refine ⟨_, ⟨fun w => set_hit p x s w hv hs0 hs2 hx pos he.1 hp he.2, fun w => refSet_hit p x s w hv hx pos hp hs hs2 he⟩, fun h w => ?_⟩
      obtain ⟨e1, e2, e3, e4⟩ := filled_valid p.size (cnt p) _ (setF_good hG pos s hs0) hv.1.1 h
      exact others_any p _ x w hv e2 h0 h1 (fun i r hne hr => by rw [e3]; exact getR_congr (getR_set hr hne he.2) (fun k hk => (e4 k hk).symm))
    · exact ⟨(⟨#[]⟩, 8), ⟨fun w => set_miss p x s w hv hx pos hp hs he, fun w => refSet_miss p x s w hv hx pos hp hs he⟩, fun h => by cases h⟩
theorem drop_both : ∃ r : ByteArray × Int, Both2 33 42 #[.string p, .int .i64 x] r ∧ (r.2 = 0 → OthersOk p r.1 x) := by
  cases hl : lineB x with
  | false => exact ⟨(⟨#[]⟩, 7), ⟨fun w => drop_line p x w hv h0 h1 hl, fun w => refDrop_line p x w hv h0 h1 hl⟩, fun h => by cases h⟩
  | true =>
    have hx : 1 ≤ x ∧ x ≤ 200 := by simp [lineB] at hl; omega
    have hG := cel_good hv
    obtain ⟨pos, hp⟩ := pos_of hG x
    by_cases he : pos < cnt p ∧ (cel p pos).1 = x
    · refine ⟨_, ⟨fun w => drop_hit p x w hv hx pos hp he, fun w => refDrop_hit p x w hv hx pos hp he⟩, fun h w => ?_⟩
      obtain ⟨e1, e2, e3, e4⟩ := filled_valid p.size (cnt p - 1) _ (del_good hG pos he.1) hv.1.1 h
      exact others_any p _ x w hv e2 h0 h1 (fun i r hne hr => by rw [e3]; exact getR_congr (getR_del hr hne he.1 he.2) (fun k hk => (e4 k hk).symm))
    · exact ⟨(⟨#[]⟩, 8), ⟨fun w => drop_miss p x w hv hx pos hp he, fun w => refDrop_miss p x w hv hx pos hp he⟩, fun h => by cases h⟩
theorem resize_both : ∃ r : ByteArray × Int, Both2 43 44 #[.string p, .int .i64 x] r := by
  have hR := fun w => refResize_any p x w hv h0 h1
  have hG := cel_good hv
  cases hz : sizeB x with
  | false =>
    refine ⟨(⟨#[]⟩, 7), fun w => resize_no p x w hv h0 h1 hz, fun w => ?_⟩
    have := hR w
    unfold fillRes at this
    rw [if_neg hG, hz] at this
    simpa using this
  | true =>
    obtain ⟨m, rfl⟩ : ∃ m : Nat, x = m := ⟨x.toNat, by simp [sizeB] at hz; omega⟩
    refine ⟨_, fun w => resize_yes p m w hv hz, fun w => ?_⟩
    have := hR w
    unfold fillRes at this
    rw [if_neg hG, hz] at this
    simpa [filledRes] using this
end
theorem put_both (p s : ByteArray) (hv : ValidR p) (hs2 : s.size ≤ 140737488355328) : ∃ r : ByteArray × Int × Int, (∀ w, Calls Try.prog 32 #[.string p, .string s] w fun e w' => e = put3 r ∧ Ext w w') ∧ (∀ w, Calls Try.prog 37 #[.string p, .string s] w fun e w' => e = put3 r ∧ Ext w w') := by
  by_cases hs : s.toList = []
  · exact ⟨_, fun w => put_empty p s w hv hs, fun w => refPut_empty p s w hv hs⟩
  · obtain ⟨pos, hp⟩ := pos_of (cel_good hv) (nextF (cel p) (cnt p))
    exact ⟨_, fun w => put_ok p s w hv hs hs2 pos hp, fun w => refPut_ok p s w hv hs hs2 pos hp⟩

set_option maxRecDepth 20000 in
set_option maxHeartbeats 8000000 in
theorem changes_walk (size : Int) (A : Option Addr) (cap n : Nat) (f : Nat → Cel) (line other : Int) (s p : ByteArray) (w : World) (hs2 : s.size ≤ 5000) (hv : ValidR p)
    (hM : ∀ w, SlC w A n f → Calls Try.prog 9 #[.int .i64 size, .slice A n cap] w fun e w' => e = .returned (.tuple #[.string p, .bool true]) ∧ Ext w w') (hs : SlC w A n f)
    (hl : -9223372036854775808 ≤ line ∧ line ≤ 9223372036854775807) (ho : -9223372036854775808 ≤ other ∧ other ≤ 9223372036854775807) :
    Calls Try.prog 8 #[.int .i64 size, .slice A n cap, .int .i64 line, .int .i64 other, .string s] w fun e w' => e = .returned (.bool true) ∧ Ext w w' := by
  obtain ⟨⟨ga, gb⟩, hG1, hG2⟩ := get_both p line hv hl.1 hl.2
  obtain ⟨⟨pa, pb, pc⟩, hP1, hP2⟩ := put_both p s hv (by omega)
  obtain ⟨⟨aa, ab⟩, ⟨hA1, hA2⟩, hA3⟩ := putAt_both p line s hv hl.1 hl.2 (by omega)
  obtain ⟨⟨sa, sb⟩, ⟨hS1, hS2⟩, hS3⟩ := set_both p line s hv hl.1 hl.2 (by omega)
  obtain ⟨⟨da, db⟩, ⟨hD1, hD2⟩, hD3⟩ := drop_both p line hv hl.1 hl.2
  obtain ⟨⟨ra, rb⟩, hR1, hR2⟩ := resize_both p other hv ho.1 ho.2
  have ne1 : ∀ s : ByteArray, (s.toList != s.toList) = false := fun s => by simp
  have d1 : ¬ (5000 : Int) < s.size := by omega
  have hx0 : Ext w w := Ext.refl w
  simp only [two2, put3] at hG1 hG2 hP1 hP2 hA1 hA2 hA3 hS1 hS2 hS3 hD1 hD2 hD3 hR1 hR2
  unfold OthersOk at hA3 hS3 hD3
  have HA := Lib.hid hA3
  have HS := Lib.hid hS3
  have HD := Lib.hid hD3
  clear hA3 hS3 hD3 hv
  by_cases ea : ab = 0 <;> by_cases es : sb = 0 <;> by_cases ed : db = 0
  all_goals (
    first | subst ea | skip
    first | subst es | skip
    first | subst ed | skip
    go_enter Try.func8, Try.ntmps8
    go_wp2_with (first
      | (go_at_call 9; refine (hM _ hs).mono ?_; rintro e w1 ⟨rfl, hx1⟩; have k1 := hx0.trans hx1; clear hx1)
      | (go_at_call 35; refine (hG1 _).mono ?_; rintro e w2 ⟨rfl, hx2⟩; have k2 := k1.trans hx2; clear hx2)
      | (go_at_call 36; refine (hG2 _).mono ?_; rintro e w3 ⟨rfl, hx3⟩; have k3 := k2.trans hx3; clear hx3)
      | (go_at_call 32; refine (hP1 _).mono ?_; rintro e w4 ⟨rfl, hx4⟩; have k4 := k3.trans hx4; clear hx4)
      | (go_at_call 37; refine (hP2 _).mono ?_; rintro e w5 ⟨rfl, hx5⟩; have k5 := k4.trans hx5; clear hx5)
      | (go_at_call 38; refine (hA1 _).mono ?_; rintro e w6 ⟨rfl, hx6⟩; have k6 := k5.trans hx6; clear hx6)
      | (go_at_call 39; refine (hA2 _).mono ?_; rintro e w7 ⟨rfl, hx7⟩; have k7 := k6.trans hx7; clear hx7)
      | (go_at_call 34; refine (hS1 _).mono ?_; rintro e w8 ⟨rfl, hx8⟩; (first | have k8 := o7.trans hx8 | have k8 := k7.trans hx8); clear hx8)
      | (go_at_call 41; refine (hS2 _).mono ?_; rintro e w9 ⟨rfl, hx9⟩; have k9 := k8.trans hx9; clear hx9)
      | (go_at_call 33; refine (hD1 _).mono ?_; rintro e w10 ⟨rfl, hx10⟩; (first | have k10 := o9.trans hx10 | have k10 := k9.trans hx10); clear hx10)
      | (go_at_call 42; refine (hD2 _).mono ?_; rintro e w11 ⟨rfl, hx11⟩; have k11 := k10.trans hx11; clear hx11)
      | (go_at_call 43; refine (hR1 _).mono ?_; rintro e w12 ⟨rfl, hx12⟩; (first | have k12 := o11.trans hx12 | have k12 := k11.trans hx12); clear hx12)
      | (go_at_call 44; refine (hR2 _).mono ?_; rintro e w13 ⟨rfl, hx13⟩; have k13 := k12.trans hx13; clear hx13)
      | (go_at_call 10; refine (awake_any _).mono ?_; rintro e w14 ⟨rfl, hx14⟩)
      | (go_at_call_of 40 (Value.string aa); refine (HA.out (by first | exact trivial | rfl) _).mono ?_; rintro e v7 ⟨rfl, hx7⟩; have o7 := k7.trans hx7; clear hx7)
      | (go_at_call_of 40 (Value.string sa); refine (HS.out (by first | exact trivial | rfl) _).mono ?_; rintro e v9 ⟨rfl, hx9⟩; have o9 := k9.trans hx9; clear hx9)
      | (go_at_call_of 40 (Value.string da); refine (HD.out (by first | exact trivial | rfl) _).mono ?_; rintro e v11 ⟨rfl, hx11⟩; have o11 := k11.trans hx11; clear hx11))
    go_ret
    exact ⟨rfl, k13.trans hx14⟩)
end Go.Proofs.Ytfinljcembipkaa

/- PcF; RangeW (merged by group.py) -/
import Derived.Test.YtcbainmpikcfjaaQ11
import Derived.Lib.ConvBytes
import Derived.Lib.AtoiErrMem
import Derived.Deep.RegionHeld3
import Derived.Test.YtcbainmpikcfjaaQ01
namespace Go.Proofs.Ytcbainmpikcfjaa
section
open Go.RowKit
set_option linter.unusedVariables false
set_option linter.unusedSimpArgs false
set_option linter.unusedSectionVars false
set_option maxRecDepth 20000

/-- a number of several bytes -/
def numL (L : List UInt8) : Nat := L.foldl (fun a b => a * 256 + b.toNat) 0
theorem numL_snoc (L : List UInt8) (b : UInt8) : numL (L ++ [b]) = numL L * 256 + b.toNat := by simp [numL]
theorem numL_lt (L : List UInt8) : numL L < 256 ^ L.length := by
  suffices h : ∀ (M : List UInt8) (a n : Nat), a < 256 ^ n → M.foldl (fun a b => a * 256 + b.toNat) a < 256 ^ (n + M.length) from by
    have := h L 0 0 (by simp)
    simpa [numL] using this
  intro M
  induction M with
  | nil => intro a n h; simpa using h
  | cons b M ih =>
    intro a n h
    have hb := UInt8.toNat_lt b
    have := ih (a * 256 + b.toNat) (n + 1) (by rw [Nat.pow_succ]; omega)
    simp only [List.foldl_cons, List.length_cons]
    rwa [show n + (M.length + 1) = n + 1 + M.length from by omega]
theorem or_acc (a b : Nat) (ha : a < 16777216) (hb : b < 256) : bits .or .i64 ((a : Int) * 256) (b : Int) = ((a * 256 + b : Nat) : Int) := by
  have e : (a : Int) * 256 = ((256 * a : Nat) : Int) := by omega
  rw [e, i64_or_nat _ _ (by omega) (by omega)]
  have := Nat.two_pow_add_eq_or_of_lt (i := 8) (b := b) (by omega) a
  simp only [Nat.reducePow] at this
  rw [← this, Nat.mul_comm]

set_option maxHeartbeats 1000000 in
theorem rd1_any (B : Nat) (s : ByteArray) (a b : Nat) (w : World) (hc : w.cell? ⟨B, 0, none⟩ = some (.string s)) (hab : a ≤ b) (hbs : b ≤ s.size) (h4 : b ≤ a + 4) (hs : s.size ≤ 100000) :
    Calls Try.prog 44 #[.int .i64 a, .int .i64 b, .pointer (some ⟨B, 0, none⟩)] w fun e w' => e = .returned (.int .i64 (numL ((s.data.toList.drop a).take (b - a)))) ∧ Ext w w' := by
  have HL := Lib.hid (show (s.extract a b).data.toList = (s.data.toList.drop a).take (b - a) from by simp [ByteArray.data_extract, List.extract_eq_take_drop])
  have zt : (s.extract a b).size = b - a := by simp only [ByteArray.size_extract]; omega
  have c1 : (a : Int) ≤ b := by omega
  have c2 : (b : Int) ≤ s.size := by omega
  obtain ⟨t, ht⟩ : ∃ t, s.extract a b = t := ⟨_, rfl⟩
  rw [ht] at HL zt
  obtain ⟨n, hn⟩ : ∃ n, b - a = n := ⟨_, rfl⟩
  rw [hn] at HL zt ⊢
  rw [← HL.out]
  have hcv := Lib.run_convert_string_bytes (P := Try.prog) w 9 60 5 t (u := .string) Try.underlying9 Try.underlying60 Try.underlying5
  have hB : ∀ j, j < t.size → (Lib.bytesWorld w 5 t).cell? ⟨w.heap.size, j, none⟩ = some (.int .u8 (t.data.toList.getD j 0).toNat) := fun j hj => Lib.bytesWorld_cell w 5 t j hj
  have hx1 : Ext w (Lib.bytesWorld w 5 t) := Lib.bytesWorld_below _ _ _
  obtain ⟨W1, hW1⟩ : ∃ W1, W1 = Lib.bytesWorld w 5 t := ⟨_, rfl⟩
  rw [← hW1] at hcv hB hx1
  clear hW1 HL
  obtain ⟨bs, hL⟩ : ∃ bs, bs = t.data.toList := ⟨_, rfl⟩
  have hLn : bs.length = t.size := by rw [hL, Lib.size_eq]
  rw [← hL] at hB ⊢
  have hle : t.size ≤ 4 := by omega
  clear hL
  go_enter Try.func44, Try.ntmps44
  go_wp2
  go_loop [6, 15] (fun o i => ∃ (k acc : Nat), o = .int .i64 acc ∧ i = .int .i64 k ∧ k ≤ t.size ∧ Hid (acc = numL (bs.take k)))
    (fun _ i => t.size - (intOf i).toNat)
  case atStart => exact ⟨0, 0, rfl, rfl, by omega, Lib.hid rfl⟩
  case round =>
    obtain ⟨k, acc, rfl, rfl, hk, hh⟩ := hrel
    by_cases hkn : k < t.size
    · have hcb := hB k hkn
      have hget : bs.getD k 0 = bs[k]'(by omega) := by simp [List.getD, List.getElem?_eq_getElem (show k < bs.length by omega)]
      rw [hget] at hcb
      have HN := Lib.hid (show numL (bs.take (k + 1)) = acc * 256 + (bs[k]'(by omega)).toNat from by rw [List.take_add_one, List.getElem?_eq_getElem (show k < bs.length by omega), hh.out]; exact numL_snoc _ _)
      generalize bs[k]'(by omega) = c at *
      have hc256 : c.toNat < 256 := c.toNat_lt
      have hacc : acc < 16777216 := by
        have := numL_lt (bs.take k)
        rw [← hh.out, List.length_take] at this
        have h2 : 256 ^ (min k bs.length) ≤ 256 ^ 3 := Nat.pow_le_pow_right (by omega) (by omega)
        have : (256 : Nat) ^ 3 = 16777216 := by decide
        omega
      have hor := or_acc acc c.toNat hacc hc256
      clear hB hget
      go_wp2
      exact ⟨⟨k + 1, acc * 256 + c.toNat, by congr 1, by go_num, by omega, Lib.hid HN.out.symm⟩, by simp [intOf]; omega⟩
    · obtain rfl : k = t.size := by omega
      have HA := Lib.hid (show acc = numL bs from by rw [hh.out, ← hLn, List.take_length])
      go_wp2
      go_ret
      exact ⟨by rw [HA.out]; rfl, hx1⟩

/-- what is read of a fragment -/
def fragV (b0 : UInt8) (s : ByteArray) : Value :=
  .agg #[.bool (decide (b0 = 65)), .int .i64 (numL ((s.data.toList.drop 1).take 4)), .int .i64 (numL ((s.data.toList.drop 5).take 2)), .int .i64 (numL ((s.data.toList.drop 7).take 2)), .int .i64 (numL ((s.data.toList.drop 9).take 1)), .string (s.extract 10 s.size)]
set_option maxHeartbeats 2000000 in
theorem read_any (b0 : UInt8) (s : ByteArray) (w : World) (h0 : s.data.toList[0]? = some b0) (hb : b0 = 65 ∨ b0 = 67) (hz : 10 ≤ s.size) (hs : s.size ≤ 100000) :
    Calls Try.prog 33 #[.string s] w fun e w' => e = .returned (.tuple #[fragV b0 s, .bool true]) ∧ Ext w w' := by
  have hR := fun (a b : Nat) (hab : a ≤ b) (hbs : b ≤ 10) (h4 : b ≤ a + 4) (W : World) hc => rd1_any w.heap.size s a b W hc hab (by omega) h4 hs
  have h1 := hR 1 5 (by omega) (by omega) (by omega)
  have h2 := hR 5 7 (by omega) (by omega) (by omega)
  have h3 := hR 7 9 (by omega) (by omega) (by omega)
  have h4 := hR 9 10 (by omega) (by omega) (by omega)
  simp only [Nat.reduceSub] at h1 h2 h3 h4
  unfold fragV
  generalize numL ((s.data.toList.drop 1).take 4) = n1 at *
  generalize numL ((s.data.toList.drop 5).take 2) = n2 at *
  generalize numL ((s.data.toList.drop 7).take 2) = n3 at *
  generalize numL ((s.data.toList.drop 9).take 1) = n4 at *
  clear hR
  have hg := get_bt s 0 (by omega)
  have hbt : bt s 0 = b0.toNat := by
    unfold bt
    rw [List.getD_eq_getElem?_getD, h0]
    rfl
  have c1 : ¬ (s.size : Int) < 10 := by omega
  have he : ¬ s = ByteArray.empty := fun e => by rw [e] at hz; exact absurd hz (by decide)
  have hx1 := (Ext.refl w).alloc (.cells #[.string s] 9)
  have g1 := (Boxed.new w 9 (.string s)).cell
  rw [hbt] at hg
  have hb256 := UInt8.toNat_lt b0
  by_cases h65 : b0 = 65
  · subst h65
    go_enter Try.func33, Try.ntmps33
    have HX := hx1.alloc (.cells #[.bool false, .int .i64 0, .int .i64 0, .int .i64 0, .int .i64 0, .string ⟨#[]⟩] 73)
    have y0 := ((Ext.refl (w.alloc (.cells #[.string s] 9))).alloc (.cells #[.bool false, .int .i64 0, .int .i64 0, .int .i64 0, .int .i64 0, .string ⟨#[]⟩] 73)).cell g1
    have hbk := alloc_at (w.alloc (.cells #[.string s] 9)) (.cells #[.bool false, .int .i64 0, .int .i64 0, .int .i64 0, .int .i64 0, .string ⟨#[]⟩] 73) (w.heap.size + 1) (by simp)
    go_wp2
    generalize (w.alloc (.cells #[.string s] 9)).alloc (.cells #[.bool false, .int .i64 0, .int .i64 0, .int .i64 0, .int .i64 0, .string ⟨#[]⟩] 73) = W2 at *
    refine wp_region_noPanic ?_
    refine wp_region_F (fun w' => w'.cell? ⟨w.heap.size, 0, none⟩ = some (.string s)) 16 (by kernel_rfl) ?_
    refine wpAnyF_take (i := 0) (v := .string s) (fuel := 16) rfl (by kernel_rfl) (by kernel_rfl) (by kernel_rfl) (by kernel_rfl) (by kernel_rfl) rfl (fun _ _ _ h => h) (.inl ⟨rfl, fun W hS => by go_simp⟩) y0 ?_
    refine wpAnyF_take (i := 1) (v := .int .u8 65) (fuel := 15) rfl (by kernel_rfl) (by kernel_rfl) (by kernel_rfl) (by kernel_rfl) (by kernel_rfl) rfl (fun _ _ _ h => h) (.inl ⟨rfl, fun W hS => by go_simp⟩) y0 ?_
    refine wpAnyF_take (i := 2) (v := .bool true) (fuel := 14) rfl (by kernel_rfl) (by kernel_rfl) (by kernel_rfl) (by kernel_rfl) (by kernel_rfl) rfl (fun _ _ _ h => h) (.inl ⟨rfl, fun W hS => by go_simp⟩) y0 ?_
    refine wpAnyF_take (i := 3) (v := .func (.func 44) #[] #[.pointer (some ⟨w.heap.size, 0, none⟩)]) (fuel := 13) rfl (by kernel_rfl) (by kernel_rfl) (by kernel_rfl) (by kernel_rfl) (by kernel_rfl) rfl (fun _ _ _ h => h) (.inl ⟨rfl, fun W hS => by go_simp⟩) y0 ?_
    refine wpAnyF_take (i := 5) (v := .func (.func 44) #[] #[.pointer (some ⟨w.heap.size, 0, none⟩)]) (fuel := 12) rfl (by kernel_rfl) (by kernel_rfl) (by kernel_rfl) (by kernel_rfl) (by kernel_rfl) rfl (fun _ _ _ h => h) (.inl ⟨rfl, fun W hS => by go_simp⟩) y0 ?_
    refine wpAnyF_take (i := 7) (v := .func (.func 44) #[] #[.pointer (some ⟨w.heap.size, 0, none⟩)]) (fuel := 11) rfl (by kernel_rfl) (by kernel_rfl) (by kernel_rfl) (by kernel_rfl) (by kernel_rfl) rfl (fun _ _ _ h => h) (.inl ⟨rfl, fun W hS => by go_simp⟩) y0 ?_
    refine wpAnyF_take (i := 9) (v := .func (.func 44) #[] #[.pointer (some ⟨w.heap.size, 0, none⟩)]) (fuel := 10) rfl (by kernel_rfl) (by kernel_rfl) (by kernel_rfl) (by kernel_rfl) (by kernel_rfl) rfl (fun _ _ _ h => h) (.inl ⟨rfl, fun W hS => by go_simp⟩) y0 ?_
    refine wpAnyF_take (i := 12) (v := .string s) (fuel := 9) rfl (by kernel_rfl) (by kernel_rfl) (by kernel_rfl) (by kernel_rfl) (by kernel_rfl) rfl (fun _ _ _ h => h) (.inl ⟨rfl, fun W hS => by go_simp⟩) y0 ?_
    refine wpAnyF_take (i := 13) (v := .string (s.extract 10 s.size)) (fuel := 8) rfl (by kernel_rfl) (by kernel_rfl) (by kernel_rfl) (by kernel_rfl) (by kernel_rfl) rfl (fun _ _ _ h => h) (.inl ⟨rfl, fun W hS => by go_simp⟩) y0 ?_
    refine wpAnyF_one (i := 4) (fuel := 7) rfl (by kernel_rfl) rfl fun K' hK' => ?_
    go_simp
    refine (h1 _ (by exact y0)).mono ?_
    rintro e w5 ⟨rfl, hx5⟩
    replace y0 := hx5.cell (p := ⟨w.heap.size, 0, none⟩) (v := .string s) (by exact y0)
    replace hbk := hx5.heap hbk
    replace HX := HX.drew.trans hx5
    refine hK' _ _ (fun _ => y0) ?_
    clear hK' K' hx5
    refine wpAnyF_one (i := 6) (fuel := 6) rfl (by kernel_rfl) rfl fun K' hK' => ?_
    go_simp
    refine (h2 _ (by exact y0)).mono ?_
    rintro e w5 ⟨rfl, hx5⟩
    replace y0 := hx5.cell (p := ⟨w.heap.size, 0, none⟩) (v := .string s) (by exact y0)
    replace hbk := hx5.heap hbk
    replace HX := HX.trans hx5
    refine hK' _ _ (fun _ => y0) ?_
    clear hK' K' hx5
    refine wpAnyF_one (i := 8) (fuel := 5) rfl (by kernel_rfl) rfl fun K' hK' => ?_
    go_simp
    refine (h3 _ (by exact y0)).mono ?_
    rintro e w5 ⟨rfl, hx5⟩
    replace y0 := hx5.cell (p := ⟨w.heap.size, 0, none⟩) (v := .string s) (by exact y0)
    replace hbk := hx5.heap hbk
    replace HX := HX.trans hx5
    refine hK' _ _ (fun _ => y0) ?_
    clear hK' K' hx5
    refine wpAnyF_one (i := 10) (fuel := 4) rfl (by kernel_rfl) rfl fun K' hK' => ?_
    go_simp
    refine (h4 _ (by exact y0)).mono ?_
    rintro e w5 ⟨rfl, hx5⟩
    replace y0 := hx5.cell (p := ⟨w.heap.size, 0, none⟩) (v := .string s) (by exact y0)
    replace hbk := hx5.heap hbk
    replace HX := HX.trans hx5
    refine hK' _ _ (fun _ => y0) ?_
    clear hK' K' hx5
    refine wpAnyF_one (i := 11) (fuel := 3) rfl (by kernel_rfl) rfl fun K' hK' => ?_
    go_simp
    refine hK' _ _ (fun _ => y0) ?_
    clear hK' K'
    refine wpAnyF_one (i := 14) (fuel := 2) rfl (by kernel_rfl) rfl fun K' hK' => ?_
    go_simp
    refine hK' _ _ (fun _ => y0) ?_
    clear hK' K'
    refine wpAnyF_one (i := 15) (fuel := 1) rfl (by kernel_rfl) rfl fun K' hK' => ?_
    obtain ⟨f0, f1, f2, f3, f4, f5⟩ := And.intro (BoxN.frozen hbk 0) (And.intro (BoxN.frozen hbk 1) (And.intro (BoxN.frozen hbk 2) (And.intro (BoxN.frozen hbk 3) (And.intro (BoxN.frozen hbk 4) (BoxN.frozen hbk 5)))))
    have t0 := BoxN.cell hbk (i := 0) rfl
    have t1 := BoxN.cell hbk (i := 1) rfl
    have t2 := BoxN.cell hbk (i := 2) rfl
    have t3 := BoxN.cell hbk (i := 3) rfl
    have t4 := BoxN.cell hbk (i := 4) rfl
    have t5 := BoxN.cell hbk (i := 5) rfl
    go_simp
    have hF := ((((((show BoxN w5 (w.heap.size + 1) 73 _ from hbk).set 0 (.bool true)).set 1 (.int .i64 n1)).set 2 (.int .i64 n2)).set 3 (.int .i64 n3)).set 4 (.int .i64 n4)).set 5 (.string (s.extract 10 s.size))
    have hU := (((((((UpdF.refl (fun i => i = w.heap.size + 1) w5).setCell (p := ⟨w.heap.size + 1, 0, none⟩) (.inl rfl) (.bool true)).setCell (p := ⟨w.heap.size + 1, 1, none⟩) (.inl rfl) (.int .i64 n1)).setCell (p := ⟨w.heap.size + 1, 2, none⟩) (.inl rfl) (.int .i64 n2)).setCell (p := ⟨w.heap.size + 1, 3, none⟩) (.inl rfl) (.int .i64 n3)).setCell (p := ⟨w.heap.size + 1, 4, none⟩) (.inl rfl) (.int .i64 n4)).setCell (p := ⟨w.heap.size + 1, 5, none⟩) (.inl rfl) (.string (s.extract 10 s.size)))
    replace y0 := hU.cell y0 (show ¬ w.heap.size = w.heap.size + 1 by omega)
    replace HX := hU.ext HX (fun i hi => by omega)
    generalize (((((w5.setCell ⟨w.heap.size + 1, 0, none⟩ (.bool true)).setCell ⟨w.heap.size + 1, 1, none⟩ (.int .i64 n1)).setCell ⟨w.heap.size + 1, 2, none⟩ (.int .i64 n2)).setCell ⟨w.heap.size + 1, 3, none⟩ (.int .i64 n3)).setCell ⟨w.heap.size + 1, 4, none⟩ (.int .i64 n4)).setCell ⟨w.heap.size + 1, 5, none⟩ (.string (s.extract 10 s.size)) = W9 at *
    refine hK' _ _ (fun _ => y0) ?_
    clear hK' K' hU f0 f1 f2 f3 f4 f5 t0 t1 t2 t3 t4 t5
    refine wpAnyF_one (i := 16) (fuel := 0) rfl (by kernel_rfl) rfl fun K' hK' => ?_
    go_simp
    refine hK' _ _ (fun h => by simp at h) ?_
    clear hK' K'
    refine wpAnyF_done (by kernel_rfl) ?_ 0
    refine NoPanic.normal ?_
    go_wp2_with (fail)
    have u0 := BoxN.cell hF (i := 0) rfl
    have u1 := BoxN.cell hF (i := 1) rfl
    have u2 := BoxN.cell hF (i := 2) rfl
    have u3 := BoxN.cell hF (i := 3) rfl
    have u4 := BoxN.cell hF (i := 4) rfl
    have u5 := BoxN.cell hF (i := 5) rfl
    exact bodyPost_ret (v := .tuple #[.agg #[.bool true, .int .i64 n1, .int .i64 n2, .int .i64 n3, .int .i64 n4, .string (s.extract 10 s.size)], .bool true]) (by simp [results, Try.results33, go_sem, u0, u1, u2, u3, u4, u5]) rfl ⟨rfl, HX⟩
  · obtain rfl : b0 = 67 := hb.resolve_left h65
    go_enter Try.func33, Try.ntmps33
    have HX := hx1.alloc (.cells #[.bool false, .int .i64 0, .int .i64 0, .int .i64 0, .int .i64 0, .string ⟨#[]⟩] 73)
    have y0 := ((Ext.refl (w.alloc (.cells #[.string s] 9))).alloc (.cells #[.bool false, .int .i64 0, .int .i64 0, .int .i64 0, .int .i64 0, .string ⟨#[]⟩] 73)).cell g1
    have hbk := alloc_at (w.alloc (.cells #[.string s] 9)) (.cells #[.bool false, .int .i64 0, .int .i64 0, .int .i64 0, .int .i64 0, .string ⟨#[]⟩] 73) (w.heap.size + 1) (by simp)
    go_wp2
    generalize (w.alloc (.cells #[.string s] 9)).alloc (.cells #[.bool false, .int .i64 0, .int .i64 0, .int .i64 0, .int .i64 0, .string ⟨#[]⟩] 73) = W2 at *
    refine wp_region_noPanic ?_
    refine wp_region_F (fun w' => w'.cell? ⟨w.heap.size, 0, none⟩ = some (.string s)) 16 (by kernel_rfl) ?_
    refine wpAnyF_take (i := 0) (v := .string s) (fuel := 16) rfl (by kernel_rfl) (by kernel_rfl) (by kernel_rfl) (by kernel_rfl) (by kernel_rfl) rfl (fun _ _ _ h => h) (.inl ⟨rfl, fun W hS => by go_simp⟩) y0 ?_
    refine wpAnyF_take (i := 1) (v := .int .u8 67) (fuel := 15) rfl (by kernel_rfl) (by kernel_rfl) (by kernel_rfl) (by kernel_rfl) (by kernel_rfl) rfl (fun _ _ _ h => h) (.inl ⟨rfl, fun W hS => by go_simp⟩) y0 ?_
    refine wpAnyF_take (i := 2) (v := .bool false) (fuel := 14) rfl (by kernel_rfl) (by kernel_rfl) (by kernel_rfl) (by kernel_rfl) (by kernel_rfl) rfl (fun _ _ _ h => h) (.inl ⟨rfl, fun W hS => by go_simp⟩) y0 ?_
    refine wpAnyF_take (i := 3) (v := .func (.func 44) #[] #[.pointer (some ⟨w.heap.size, 0, none⟩)]) (fuel := 13) rfl (by kernel_rfl) (by kernel_rfl) (by kernel_rfl) (by kernel_rfl) (by kernel_rfl) rfl (fun _ _ _ h => h) (.inl ⟨rfl, fun W hS => by go_simp⟩) y0 ?_
    refine wpAnyF_take (i := 5) (v := .func (.func 44) #[] #[.pointer (some ⟨w.heap.size, 0, none⟩)]) (fuel := 12) rfl (by kernel_rfl) (by kernel_rfl) (by kernel_rfl) (by kernel_rfl) (by kernel_rfl) rfl (fun _ _ _ h => h) (.inl ⟨rfl, fun W hS => by go_simp⟩) y0 ?_
    refine wpAnyF_take (i := 7) (v := .func (.func 44) #[] #[.pointer (some ⟨w.heap.size, 0, none⟩)]) (fuel := 11) rfl (by kernel_rfl) (by kernel_rfl) (by kernel_rfl) (by kernel_rfl) (by kernel_rfl) rfl (fun _ _ _ h => h) (.inl ⟨rfl, fun W hS => by go_simp⟩) y0 ?_
    refine wpAnyF_take (i := 9) (v := .func (.func 44) #[] #[.pointer (some ⟨w.heap.size, 0, none⟩)]) (fuel := 10) rfl (by kernel_rfl) (by kernel_rfl) (by kernel_rfl) (by kernel_rfl) (by kernel_rfl) rfl (fun _ _ _ h => h) (.inl ⟨rfl, fun W hS => by go_simp⟩) y0 ?_
    refine wpAnyF_take (i := 12) (v := .string s) (fuel := 9) rfl (by kernel_rfl) (by kernel_rfl) (by kernel_rfl) (by kernel_rfl) (by kernel_rfl) rfl (fun _ _ _ h => h) (.inl ⟨rfl, fun W hS => by go_simp⟩) y0 ?_
    refine wpAnyF_take (i := 13) (v := .string (s.extract 10 s.size)) (fuel := 8) rfl (by kernel_rfl) (by kernel_rfl) (by kernel_rfl) (by kernel_rfl) (by kernel_rfl) rfl (fun _ _ _ h => h) (.inl ⟨rfl, fun W hS => by go_simp⟩) y0 ?_
    refine wpAnyF_one (i := 4) (fuel := 7) rfl (by kernel_rfl) rfl fun K' hK' => ?_
    go_simp
    refine (h1 _ (by exact y0)).mono ?_
    rintro e w5 ⟨rfl, hx5⟩
    replace y0 := hx5.cell (p := ⟨w.heap.size, 0, none⟩) (v := .string s) (by exact y0)
    replace hbk := hx5.heap hbk
    replace HX := HX.drew.trans hx5
    refine hK' _ _ (fun _ => y0) ?_
    clear hK' K' hx5
    refine wpAnyF_one (i := 6) (fuel := 6) rfl (by kernel_rfl) rfl fun K' hK' => ?_
    go_simp
    refine (h2 _ (by exact y0)).mono ?_
    rintro e w5 ⟨rfl, hx5⟩
    replace y0 := hx5.cell (p := ⟨w.heap.size, 0, none⟩) (v := .string s) (by exact y0)
    replace hbk := hx5.heap hbk
    replace HX := HX.trans hx5
    refine hK' _ _ (fun _ => y0) ?_
    clear hK' K' hx5
    refine wpAnyF_one (i := 8) (fuel := 5) rfl (by kernel_rfl) rfl fun K' hK' => ?_
    go_simp
    refine (h3 _ (by exact y0)).mono ?_
    rintro e w5 ⟨rfl, hx5⟩
    replace y0 := hx5.cell (p := ⟨w.heap.size, 0, none⟩) (v := .string s) (by exact y0)
    replace hbk := hx5.heap hbk
    replace HX := HX.trans hx5
    refine hK' _ _ (fun _ => y0) ?_
    clear hK' K' hx5
    refine wpAnyF_one (i := 10) (fuel := 4) rfl (by kernel_rfl) rfl fun K' hK' => ?_
    go_simp
    refine (h4 _ (by exact y0)).mono ?_
    rintro e w5 ⟨rfl, hx5⟩
    replace y0 := hx5.cell (p := ⟨w.heap.size, 0, none⟩) (v := .string s) (by exact y0)
    replace hbk := hx5.heap hbk
    replace HX := HX.trans hx5
    refine hK' _ _ (fun _ => y0) ?_
    clear hK' K' hx5
    refine wpAnyF_one (i := 11) (fuel := 3) rfl (by kernel_rfl) rfl fun K' hK' => ?_
    go_simp
    refine hK' _ _ (fun _ => y0) ?_
    clear hK' K'
    refine wpAnyF_one (i := 14) (fuel := 2) rfl (by kernel_rfl) rfl fun K' hK' => ?_
    go_simp
    refine hK' _ _ (fun _ => y0) ?_
    clear hK' K'
    refine wpAnyF_one (i := 15) (fuel := 1) rfl (by kernel_rfl) rfl fun K' hK' => ?_
    obtain ⟨f0, f1, f2, f3, f4, f5⟩ := And.intro (BoxN.frozen hbk 0) (And.intro (BoxN.frozen hbk 1) (And.intro (BoxN.frozen hbk 2) (And.intro (BoxN.frozen hbk 3) (And.intro (BoxN.frozen hbk 4) (BoxN.frozen hbk 5)))))
    have t0 := BoxN.cell hbk (i := 0) rfl
    have t1 := BoxN.cell hbk (i := 1) rfl
    have t2 := BoxN.cell hbk (i := 2) rfl
    have t3 := BoxN.cell hbk (i := 3) rfl
    have t4 := BoxN.cell hbk (i := 4) rfl
    have t5 := BoxN.cell hbk (i := 5) rfl
    go_simp
    have hF := ((((((show BoxN w5 (w.heap.size + 1) 73 _ from hbk).set 0 (.bool false)).set 1 (.int .i64 n1)).set 2 (.int .i64 n2)).set 3 (.int .i64 n3)).set 4 (.int .i64 n4)).set 5 (.string (s.extract 10 s.size))
    have hU := (((((((UpdF.refl (fun i => i = w.heap.size + 1) w5).setCell (p := ⟨w.heap.size + 1, 0, none⟩) (.inl rfl) (.bool false)).setCell (p := ⟨w.heap.size + 1, 1, none⟩) (.inl rfl) (.int .i64 n1)).setCell (p := ⟨w.heap.size + 1, 2, none⟩) (.inl rfl) (.int .i64 n2)).setCell (p := ⟨w.heap.size + 1, 3, none⟩) (.inl rfl) (.int .i64 n3)).setCell (p := ⟨w.heap.size + 1, 4, none⟩) (.inl rfl) (.int .i64 n4)).setCell (p := ⟨w.heap.size + 1, 5, none⟩) (.inl rfl) (.string (s.extract 10 s.size)))
    replace y0 := hU.cell y0 (show ¬ w.heap.size = w.heap.size + 1 by omega)
    replace HX := hU.ext HX (fun i hi => by omega)
    generalize (((((w5.setCell ⟨w.heap.size + 1, 0, none⟩ (.bool false)).setCell ⟨w.heap.size + 1, 1, none⟩ (.int .i64 n1)).setCell ⟨w.heap.size + 1, 2, none⟩ (.int .i64 n2)).setCell ⟨w.heap.size + 1, 3, none⟩ (.int .i64 n3)).setCell ⟨w.heap.size + 1, 4, none⟩ (.int .i64 n4)).setCell ⟨w.heap.size + 1, 5, none⟩ (.string (s.extract 10 s.size)) = W9 at *
    refine hK' _ _ (fun _ => y0) ?_
    clear hK' K' hU f0 f1 f2 f3 f4 f5 t0 t1 t2 t3 t4 t5
    refine wpAnyF_one (i := 16) (fuel := 0) rfl (by kernel_rfl) rfl fun K' hK' => ?_
    go_simp
    refine hK' _ _ (fun h => by simp at h) ?_
    clear hK' K'
    refine wpAnyF_done (by kernel_rfl) ?_ 0
    refine NoPanic.normal ?_
    go_wp2_with (fail)
    have u0 := BoxN.cell hF (i := 0) rfl
    have u1 := BoxN.cell hF (i := 1) rfl
    have u2 := BoxN.cell hF (i := 2) rfl
    have u3 := BoxN.cell hF (i := 3) rfl
    have u4 := BoxN.cell hF (i := 4) rfl
    have u5 := BoxN.cell hF (i := 5) rfl
    exact bodyPost_ret (v := .tuple #[.agg #[.bool false, .int .i64 n1, .int .i64 n2, .int .i64 n3, .int .i64 n4, .string (s.extract 10 s.size)], .bool true]) (by simp [results, Try.results33, go_sem, u0, u1, u2, u3, u4, u5]) rfl ⟨rfl, HX⟩
end
section
open Go.RowKit
set_option linter.unusedVariables false
set_option linter.unusedSectionVars false
/-- Of an iterator that goes from s to s' by yielding e where 'R s e s'', begins at s0 and ends where 'fin' holds. S: the blocks that are its own by now. -/
def SeqW {σ : Type} (P : Program) (g : Nat) (lb : Array Value) (R : σ → Array Value → σ → Prop) (s0 : σ) (fin : σ → Prop) (K : World → Prop) : Prop :=
  ∀ (l : Nat) (J : (Nat → Prop) → σ → World → Prop) (Jx : World → Prop) (Jp : List PanicEntry → World → Prop) (W : World),
    (∀ S s A B, J S s A → Ext A B → J S s B) → (∀ S T s A, J S s A → (∀ g, T g → S g ∨ A.heap.size ≤ g) → J T s A) → (∀ S s A B, J S s A → UpdF S A B → J S s B) → (∀ A B, Jx A → Ext A B → Jx B) → (∀ S s A, J S s A → K A) →
    (∀ S s enc s' A, J S s A → R s enc s' → (∀ g, S g → g < A.heap.size) → YieldAt Fence.wide 0 P l enc A fun e W' =>
      (e = .returned (.bool true) ∧ J S s' W' ∧ ∀ g, S g → g < A.heap.size → W'.heap[g]? = A.heap[g]?) ∨ (e = .returned (.bool false) ∧ Jx W') ∨ ∃ ch, e = .panicked ch ∧ Jp ch W') →
    J (fun _ => False) s0 W →
    CallsIn Fence.wide 0 P g (#[.func (.yield l) #[] #[]] ++ lb) W fun e W' =>
      ((∃ v, e = .returned v) ∧ ((∃ s S, fin s ∧ J S s W') ∨ Jx W')) ∨ ∃ ch, e = .panicked ch ∧ Jp ch W'
/-- how a round ends -/
def postW (B : Nat) (S : Nat → Prop) (I : World → Prop) (Ix : Code → World → Prop) (Ip : List PanicEntry → World → Prop) (W : World) : Exit → Act → World → Prop
  | .normal, _, W' => W'.heap[B]? = W.heap[B]? ∧ W'.heap[B + 1]? = W.heap[B + 1]? ∧ (∀ g, S g → g < W.heap.size → W'.heap[g]? = W.heap[g]?) ∧ I W'
  | .ret, _, W' => W'.heap[B]? = W.heap[B]? ∧ W'.heap[B + 1]? = W.heap[B + 1]? ∧ Ix .ret W'
  | .exit id, _, W' => W'.heap[B]? = W.heap[B]? ∧ W'.heap[B + 1]? = W.heap[B + 1]? ∧ Ix (.exit id) W'
  | .goto t, _, W' => W'.heap[B]? = W.heap[B]? ∧ W'.heap[B + 1]? = W.heap[B + 1]? ∧ Ix (.goto t) W'
  | .panic ch, a, W' => W'.heap[B]? = W.heap[B]? ∧ a.defers = [] ∧ Ip ch W'
  | .outgrown, _, _ => False
section
variable {P : Program} {Q : Exit → Act → World → Prop} {a : Act} {w : World} {f : FuncId} {σ : Type}

/-- The statement: a range over a function that has its contract. -/
theorem wpAt_rangeFuncW {g : Operand} {ps : Array Tmp} {assign body : Code} {fn : Func} (hf : P.funcs[f]? = some fn) {gf : Nat} {lb : Array Value}
    (hg : a.eval g = .func (.func gf) #[] lb) (eg : ∀ args w, (callFunc gf args).run P w = .ok (.enter gf args) w)
    {R : σ → Array Value → σ → Prop} {s0 : σ} {done : σ → Prop} {K : World → Prop} (hseq : SeqW P gf lb R s0 done K) (hps : ∀ s e s', R s e s' → e.size = ps.size)
    (I : (Nat → Prop) → σ → World → Prop) (Ix : Code → World → Prop) (Ip : List PanicEntry → World → Prop)
    (hIe : ∀ S i A B, I S i A → Ext A B → I S i B) (hIn : ∀ S T i A, I S i A → (∀ g, T g → S g ∨ A.heap.size ≤ g) → I T i A) (hIr : ∀ S i A B, I S i A → UpdF S A B → I S i B) (hIxe : ∀ c A B, Ix c A → Ext A B → Ix c B)
    (hIu : ∀ S i A r r', I S i A → A.heap[w.heap.size + 1]? = some (.loop r) → I S i (A.putObj (w.heap.size + 1) (.loop r'))) (hIxu : ∀ c A r r', Ix c A → A.heap[w.heap.size + 1]? = some (.loop r) → Ix c (A.putObj (w.heap.size + 1) (.loop r')))
    (hKA : ∀ S i A, I S i A → K A) (h0 : I (fun _ => False) s0 w)
    (hround : ∀ S s e s' W r, I S s W → (∀ g, S g → w.heap.size + 2 ≤ g ∧ g < W.heap.size) → w.heap.size + 2 ≤ W.heap.size → W.heap[w.heap.size]? = some (.deferred (some [])) → W.heap[w.heap.size + 1]? = some (.loop r) → R s e s' →
      assign.wpIn (Fence.wide.inRound (w.heap.size + 1)) 0 P (Exit.then (fun a' W' => W'.heap[w.heap.size]? = W.heap[w.heap.size]? ∧ W'.heap[w.heap.size + 1]? = W.heap[w.heap.size + 1]? ∧ W.heap.size ≤ W'.heap.size ∧ (∀ g, S g → g < W.heap.size → W'.heap[g]? = W.heap[g]?) ∧
        ∀ W'' r', W'' = W'.putObj (w.heap.size + 1) (.loop r') → body.wpIn (Fence.wide.inRound (w.heap.size + 1)) 0 P (postW w.heap.size S (I S s') Ix Ip W'') a' W'') (fun _ _ _ => False))
        { tmps := (ps.zip e).foldl (fun t (p, v) => t.setIfInBounds p v) a.tmps, defers := [] } W)
    (hdone : ∀ S s W, done s → I S s W → W.heap[w.heap.size]? = some (.deferred (some [])) → Q .normal { a with defers := { target := .collected w.heap.size, args := #[] } :: a.defers } W)
    (hstop : ∀ c W, Ix c W → W.heap[w.heap.size]? = some (.deferred (some [])) → c.wp P Q { a with defers := { target := .collected w.heap.size, args := #[] } :: a.defers } W)
    (hpanic : ∀ ch W, Ip ch W → W.heap[w.heap.size]? = some (.deferred (some [])) → Q (.panic ch) { a with defers := { target := .collected w.heap.size, args := #[] } :: a.defers } W) :
    wpAt f P (Code.rangeFunc g ps assign body) Q a w := by
  intro b k cs hro hb
  obtain ⟨rec, hrec⟩ : ∃ rec : LoopState → Option Code → Loop, rec = fun st pe => { state := st, pending := pe, fn := b.fn, tmps := a.tmps, params := ps, assign, body, defers := w.heap.size } := ⟨_, rfl⟩
  obtain ⟨W1, hW1⟩ : ∃ W1, (w.alloc (.deferred (some []))).alloc (.loop (rec .ready none)) = W1 := ⟨_, rfl⟩
  have hL1 : W1.heap[w.heap.size + 1]? = some (.loop (rec .ready none)) := by
    rw [← hW1]; have := World.alloc_heap_new (w.alloc (.deferred (some []))) (.loop (rec .ready none)); rwa [World.size_alloc] at this
  have hK1 : W1.heap[w.heap.size]? = some (.deferred (some [])) := by
    rw [← hW1]; exact (Below.heap_alloc _ _ _ (by simp)).trans (World.alloc_heap_new w _)
  have hE1 : Ext w W1 := by rw [← hW1]; exact ((Ext.refl w).alloc _).alloc _
  have hI1 : I (fun _ => False) s0 W1 := hIe _ _ _ _ h0 hE1
  have hz1 : W1.heap.size = w.heap.size + 2 := by rw [← hW1]; simp only [World.size_alloc]
  have he : (Instr.enterLoop b.fn a.tmps ps assign body b.roundOf).run P w = .ok (w.heap.size + 1, [{ target := .collected w.heap.size, args := #[] }]) W1 := by
    rw [hro, ← hW1, hrec]; exact run_enterLoop_outer _ _ _ _ _
  have hres : (resolve a.eval (rangeCall g (w.heap.size + 1)) 0).run P W1 = .ok { target := .fn (.func gf) lb, args := #[.func (.yield (w.heap.size + 1)) #[] #[]] } W1 := by
    simp only [resolve, hg]
    simp [go_sem]
  have hinv : (invoke (Target.fn (.func gf) lb) #[.func (.yield (w.heap.size + 1)) #[] #[]]).run P W1 = .ok (.enter gf (#[.func (.yield (w.heap.size + 1)) #[] #[]] ++ lb)) W1 := by
    simp [invoke, go_sem, eg]
  have h0' : (lone (b.atR a (.code (.rangeFunc g ps assign body) :: k)) cs w).fenced P Fence.wide :=
    fenced_lone (.inl trivial) (fun _ _ => trivial) (room_wide _)
  have henter := stepR_rangeFunc (P := P) (b := b) (a := a) (k := k) (cs := cs) (w := w) he hres hinv
  have hcall := hseq (w.heap.size + 1)
    (fun S i W => I S i W ∧ W.heap[w.heap.size + 1]? = some (.loop (rec .ready none)) ∧ W.heap[w.heap.size]? = some (.deferred (some [])) ∧ ∀ g, S g → w.heap.size + 2 ≤ g)
    (fun W => ∃ c, Ix c W ∧ W.heap[w.heap.size + 1]? = some (.loop (rec .done (some c))) ∧ W.heap[w.heap.size]? = some (.deferred (some [])))
    (fun ch W => Ip ch W ∧ W.heap[w.heap.size]? = some (.deferred (some [])))
    W1
    (fun S i A B ⟨h1, h2, h3, h4⟩ hx => ⟨hIe S i A B h1 hx, hx.heap h2, hx.heap h3, h4⟩)
    (fun S T i A ⟨h1, h2, h3, h4⟩ hn => ⟨hIn S T i A h1 hn, h2, h3, fun g hg => by
      have hl := (Array.getElem?_eq_some_iff.1 h2).1
      rcases hn g hg with h5 | h5
      · exact h4 g h5
      · omega⟩)
    (fun S i A B ⟨h1, h2, h3, h4⟩ hx => ⟨hIr S i A B h1 hx, hx.heap h2 (fun e => by have := h4 _ e; omega), hx.heap h3 (fun e => by have := h4 _ e; omega), h4⟩)
    (fun A B ⟨c, h1, h2, h3⟩ hx => ⟨c, hIxe c A B h1 hx, hx.heap h2, hx.heap h3⟩)
    (fun S i A h => hKA S i A h.1)
    ?_ ⟨hI1, hL1, hK1, fun g hg => hg.elim⟩
  · have hroom : Fence.wide.room ((b.atR { a with defers := [{ target := .collected w.heap.size, args := #[] }] ++ a.defers } (.inRangeFunc (w.heap.size + 1) :: k) :: cs).length + 1 + 0) := room_wide _
    obtain ⟨e, w₃, fr, hR, hsteps, hfn, hleave⟩ := hcall.2 (b.atR { a with defers := [{ target := .collected w.heap.size, args := #[] }] ++ a.defers } (.inRangeFunc (w.heap.size + 1) :: k) :: cs) hroom
    rcases hR with ⟨⟨v, rfl⟩, hR⟩ | ⟨ch, rfl, hp, hD⟩
    · have hl : (lone fr (b.atR { a with defers := [{ target := .collected w.heap.size, args := #[] }] ++ a.defers } (.inRangeFunc (w.heap.size + 1) :: k) :: cs) w₃).fenced P Fence.wide := fenced_leaving trivial hroom hleave
      have fin : ∀ (jump : Option Code) (st : LoopState), st ≠ .busy → w₃.heap[w.heap.size + 1]? = some (.loop (rec st jump)) →
          StepsIn (Machine.fenced P Fence.wide) P (lone (b.atR a (.code (.rangeFunc g ps assign body) :: k)) cs w)
            (lone (b.atR { a with defers := [{ target := .collected w.heap.size, args := #[] }] ++ a.defers } ((jump.map Item.code).toList ++ k)) cs (w₃.putObj (w.heap.size + 1) (.loop (rec .exhausted jump)))) := by
        intro jump st hst hl3
        have hend := run_endLoop (P := P) hl3 (by rw [hrec]; exact hst)
        rw [hrec] at hend
        refine .head h0' henter (StepsIn.trans hsteps (.head hl ?_ (.one (fenced_calm (fr := b.atR { a with defers := [{ target := .collected w.heap.size, args := #[] }] ++ a.defers } (.endRangeFunc (w.heap.size + 1) :: k)) trivial (n := 0) (room_wide _) rfl) (stepR_endRangeFunc (by rw [hrec]; exact hend)))))
        rw [← finish_atR_inRangeFunc (w.heap.size + 1) v]; exact step_leave_returned hleave
      rcases hR with ⟨s, S, hs, hi, hL, hD, _⟩ | ⟨c, hi, hL, hD⟩
      · exact ⟨.normal, _, _, hdone S s _ hs (hIu _ _ _ _ _ hi hL) ((World.putObj_heap_other (by omega)).trans hD), fin none _ (by simp) hL⟩
      · obtain ⟨e', a'', w₅, hq, harr⟩ := (wpIn_wide (n := 0)).2 (hstop c _ (hIxu _ _ _ (rec .exhausted (some c)) hi hL) ((World.putObj_heap_other (by omega)).trans hD)) b k cs hro trivial (room_wide _)
        exact ⟨e', a'', w₅, hq, .of_steps (fin (some c) _ (by simp) hL) harr⟩
    · have hl : (lone fr (b.atR { a with defers := [{ target := .collected w.heap.size, args := #[] }] ++ a.defers } (.inRangeFunc (w.heap.size + 1) :: k) :: cs) w₃).fenced P Fence.wide := fenced_leaving trivial hroom hleave
      refine ⟨.panic ch, _, w₃, hpanic ch w₃ hp hD, .inRangeFunc (w.heap.size + 1) :: k, .head h0' henter (StepsIn.trans hsteps (.one hl ?_))⟩
      rw [List.singleton_append, ← Frame.raise_atR]; exact step_leave_panicked hleave
  · rintro S i enc i' W ⟨hi, hl, hD, hS⟩ hlt hSl
    have hsz : w.heap.size + 1 < W.heap.size := (Array.getElem?_eq_some_iff.1 hl).1
    have hy := run_yield (P := P) (args := enc) hl (by rw [hrec]; exact hps _ _ _ hlt)
    rw [hrec] at hy
    refine ⟨b.fn, _, assign, body, hy, roundIn_panics (by rw [hb]; exact hf) (wpIn_mono (hround S i enc i' W _ hi (fun g hg => ⟨hS g hg, hSl g hg⟩) (by omega) hD hl hlt) ?_)⟩
    rintro e a' W' hp
    cases e with
    | exit id => exact hp.elim
    | goto t => exact hp.elim
    | ret => exact hp.elim
    | panic ch => exact hp.elim
    | outgrown => exact hp.elim
    | normal =>
      obtain ⟨hD', hl', hsw, ho', hbody⟩ := hp
      rw [hl] at hl'
      rw [hD] at hD'
      have hsz' : w.heap.size + 1 < W'.heap.size := (Array.getElem?_eq_some_iff.1 hl').1
      refine ⟨_, run_beginRound hl' (by rw [hrec]), wpIn_mono (hbody _ _ rfl) ?_⟩
      have hl2 : (W'.putObj (w.heap.size + 1) (.loop { rec .ready none with state := .busy })).heap[w.heap.size + 1]? = some (.loop { rec .ready none with state := .busy }) := World.putObj_heap_same hsz'
      have hD2 : (W'.putObj (w.heap.size + 1) (.loop { rec .ready none with state := .busy })).heap[w.heap.size]? = some (.deferred (some [])) := (World.putObj_heap_other (by omega)).trans hD'
      have ho2 : ∀ g, S g → g < W.heap.size → (W'.putObj (w.heap.size + 1) (.loop { rec .ready none with state := .busy })).heap[g]? = W.heap[g]? := fun g hg hlt => (World.putObj_heap_other (by have := hS g hg; omega)).trans (ho' g hg hlt)
      have hs2 : W.heap.size ≤ (W'.putObj (w.heap.size + 1) (.loop { rec .ready none with state := .busy })).heap.size := by rw [World.putObj_size]; exact hsw
      generalize W'.putObj (w.heap.size + 1) (.loop { rec .ready none with state := .busy }) = W2 at hl2 hD2 ho2 hs2
      have fin : ∀ (jump : Option Code) (W3 : World), W3.heap[w.heap.size]? = W2.heap[w.heap.size]? → W3.heap[w.heap.size + 1]? = W2.heap[w.heap.size + 1]? →
          (Instr.endRound (w.heap.size + 1) jump).run P W3 = .ok (.bool jump.isNone) (W3.putObj (w.heap.size + 1) (.loop (rec (if jump.isNone then .ready else .done) jump))) ∧
          (W3.putObj (w.heap.size + 1) (.loop (rec (if jump.isNone then .ready else .done) jump))).heap[w.heap.size + 1]? = some (.loop (rec (if jump.isNone then .ready else .done) jump)) ∧
          (W3.putObj (w.heap.size + 1) (.loop (rec (if jump.isNone then .ready else .done) jump))).heap[w.heap.size]? = some (.deferred (some [])) := fun jump W3 hd3 hl3 => by
        rw [hl2] at hl3
        rw [hD2] at hd3
        have := run_endRound (P := P) jump hl3
        rw [hrec] at this hl3 ⊢
        exact ⟨this, World.putObj_heap_same (Array.getElem?_eq_some_iff.1 hl3).1, (World.putObj_heap_other (by omega)).trans hd3⟩
      rintro e a3 W3 hp
      cases e with
      | normal =>
        obtain ⟨hd3, hk3, ho3, hi3⟩ := hp
        obtain ⟨hr, hl4, hk4⟩ := fin none W3 hd3 hk3
        exact ⟨_, _, hr, .inl ⟨rfl, ⟨hIu _ _ _ _ _ hi3 (hk3.trans hl2), hl4, hk4, hS⟩, fun g hg hlt => (World.putObj_heap_other (by have := hS g hg; omega)).trans ((ho3 g hg (by omega)).trans (ho2 g hg hlt))⟩⟩
      | ret =>
        obtain ⟨hd3, hk3, hi3⟩ := hp
        obtain ⟨hr, hl4, hk4⟩ := fin (some .ret) W3 hd3 hk3
        exact ⟨_, _, hr, .inr (.inl ⟨rfl, .ret, hIxu _ _ _ _ hi3 (hk3.trans hl2), hl4, hk4⟩)⟩
      | exit id =>
        obtain ⟨hd3, hk3, hi3⟩ := hp
        obtain ⟨hr, hl4, hk4⟩ := fin (some (.exit id)) W3 hd3 hk3
        exact ⟨_, _, hr, .inr (.inl ⟨rfl, .exit id, hIxu _ _ _ _ hi3 (hk3.trans hl2), hl4, hk4⟩)⟩
      | goto t =>
        obtain ⟨hd3, hk3, hi3⟩ := hp
        obtain ⟨hr, hl4, hk4⟩ := fin (some (.goto t)) W3 hd3 hk3
        exact ⟨_, _, hr, .inr (.inl ⟨rfl, .goto t, hIxu _ _ _ _ hi3 (hk3.trans hl2), hl4, hk4⟩)⟩
      | panic ch =>
        obtain ⟨hd3, ha3, hi3⟩ := hp
        exact ⟨ha3, .inr (.inr ⟨ch, rfl, hi3, by rw [hd3]; exact hD2⟩)⟩
      | outgrown => exact hp.elim
end
end
end Go.Proofs.Ytcbainmpikcfjaa

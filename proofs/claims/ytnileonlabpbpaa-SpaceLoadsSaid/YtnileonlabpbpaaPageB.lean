/- Contracts of package page's needs and filled. -/
import Derived.Test.YtnileonlabpbpaaPageA
namespace Go.Proofs.Ytnileonlabpbpaa
open Go.RowKit
set_option linter.unusedVariables false
set_option maxRecDepth 20000

def needsF (f : Nat → Cel) (n : Nat) : Int := 2 + 4 * lastF f n + bytesF f n
theorem needs_any (A : Option Addr) (cap n : Nat) (f : Nat → Cel) (w : World) (hn : n ≤ 200) (hs : SlC w A n f) (hsz : ∀ i, i < n → (f i).2.size ≤ 140737488355328)
    (hl0 : -4096 ≤ lastF f n) (hl1 : lastF f n ≤ 4096) :
    Calls Try.prog 63 #[.slice A n cap] w fun e w' => e = .returned (.int .i64 (needsF f n)) ∧ Ext w w' := by
  have hb := bytesF_le f n hsz
  have hmul : n * 140737488355328 ≤ 200 * 140737488355328 := Nat.mul_le_mul_right _ (by omega)
  by_cases h0 : n = 0
  · have e0 : needsF f n = 2 := by simp [needsF, h0, lastF, bytesF]
    have E0 := Lib.hid e0
    clear e0
    subst h0
    go_enter Try.func63, Try.ntmps63
    go_wp2
    go_loopw [3, 21] (fun s i wr => i = .int .i64 0 ∧ s = .int .i64 2 ∧ Ext w wr) (fun _ _ _ => 0)
    case atStart => exact ⟨rfl, rfl, Ext.refl w⟩
    case round =>
      obtain ⟨rfl, rfl, her⟩ := hrel
      go_wp2
      go_ret
      exact ⟨ret_int E0.out.symm, her⟩
  · have hlast := hs.at_ (n - 1) (by omega)
    obtain ⟨b, off, rfl, h1, h2⟩ := hlast
    have el : lastF f n = (f (n - 1)).1 := by simp [lastF, h0]
    have hn0 : 0 < n := by omega
    rw [← el] at h1
    have E0 := Lib.hid el
    clear el h0
    have hd : ((n : Int) - 1).toNat = n - 1 := by omega
    go_enter Try.func63, Try.ntmps63
    go_wp2
    go_loopw [3, 21] (fun s i wr => ∃ k : Nat, k ≤ n ∧ i = .int .i64 k ∧ s = .int .i64 (2 + 4 * lastF f n + bytesF f k) ∧ Ext w wr) (fun _ i _ => n - (intOf i).toNat)
    case atStart => exact ⟨0, by omega, rfl, by simp [bytesF], Ext.refl w⟩
    case round =>
      obtain ⟨k, hk, rfl, rfl, her⟩ := hrel
      by_cases hlt : k < n
      · obtain ⟨b', off', e', g1w, g2w⟩ := hs.at_ k hlt
        obtain ⟨rfl, rfl⟩ : b = b' ∧ off = off' := by simpa using e'
        clear e'
        have g1 := her.cell g1w
        have g2 := her.cell g2w
        have m1 := bytesF_mono f (show k + 1 ≤ n by omega)
        have m2 : bytesF f (k + 1) = bytesF f k + (f k).2.size := rfl
        have m3 : bytesF f k + (f k).2.size ≤ bytesF f n := by omega
        have H2 := Lib.hid m2
        clear m1 m2
        go_wp2
        go_roundw
        case rel => exact ⟨k + 1, by omega, by go_num, by rw [H2.out]; go_num, (her.alloc _)⟩
        case measure => simp [intOf]; omega
      · obtain rfl : k = n := by omega
        go_wp2
        go_ret
        exact ⟨rfl, her⟩

theorem splice_comm (B : List UInt8) (i j : Nat) (x y : List UInt8) (h : i + x.length ≤ j) (hj : j + y.length ≤ B.length) : splice (splice B i x) j y = splice (splice B j y) i x := by
  have l1 : (splice B i x).length = B.length := length_splice _ _ _ (by omega)
  have l2 : (splice B j y).length = B.length := length_splice _ _ _ hj
  apply List.ext_getElem?
  intro k
  have g : ∀ (C : List UInt8) (m : Nat) (z : List UInt8), m + z.length ≤ C.length → ∀ k, (splice C m z)[k]? = if k < m then C[k]? else if k < m + z.length then z[k - m]? else C[k]? := by
    intro C m z hm k
    unfold splice
    by_cases c1 : k < m
    · rw [if_pos c1, List.getElem?_append_left (by simp; omega), List.getElem?_take_of_lt c1]
    · rw [if_neg c1, List.getElem?_append_right (by simp; omega)]
      have hmin : min m C.length = m := by omega
      simp only [List.length_take, hmin]
      by_cases c2 : k < m + z.length
      · rw [if_pos c2, List.getElem?_append_left (by omega)]
      · rw [if_neg c2, List.getElem?_append_right (by omega), List.getElem?_drop]
        congr 1; omega
  rw [g _ _ _ (by omega), g _ _ _ (by omega), g _ _ _ (by omega), g _ _ _ (by omega)]
  by_cases a1 : k < i <;> by_cases a2 : k < i + x.length <;> by_cases a3 : k < j <;> by_cases a4 : k < j + y.length <;> simp [a1, a2, a3, a4] <;> omega
/-- the three writes of a cell in the program's order -/
theorem step_comm (B d : List UInt8) (L e m : Nat) (hL : 1 ≤ L) (he : 4 * L + 2 ≤ e) (hd : e + d.length ≤ B.length) :
    splice (splice (splice B e d) (4 * L - 2) (ent m)) (4 * L) (ent d.length) = splice (splice (splice B (4 * L - 2) (ent m)) (4 * L) (ent d.length)) e d := by
  have l1 : (splice B (4 * L - 2) (ent m)).length = B.length := length_splice _ _ _ (by show _ + 2 ≤ _; omega)
  rw [← splice_comm B (4 * L - 2) e (ent m) d (by show _ + 2 ≤ _; omega) hd]
  rw [← splice_comm (splice B (4 * L - 2) (ent m)) (4 * L) e (ent d.length) d (by show _ + 2 ≤ _; omega) (by rw [l1]; exact hd)]

def filledRes (size n : Nat) (f : Nat → Cel) : ByteArray × Int :=
  if roomF size f n < 0 then (⟨#[]⟩, 13) else (⟨(bufF size n f n).toArray⟩, 0)
structure Good (n : Nat) (f : Nat → Cel) : Prop where
  pos : ∀ i, i < n → 1 ≤ (f i).1
  le : ∀ i, i < n → (f i).1 ≤ lastF f n
  last : lastF f n ≤ 200
  data : ∀ i, i < n → 0 < (f i).2.size ∧ (f i).2.size ≤ 140737488355328
theorem Good.last0 {n : Nat} {f : Nat → Cel} (h : Good n f) : 0 ≤ lastF f n := by
  unfold lastF
  by_cases h0 : n = 0
  · simp [h0]
  · rw [if_neg h0]; have := h.pos (n - 1) (by omega); omega

theorem filled_full (size : Nat) (A : Option Addr) (cap n : Nat) (f : Nat → Cel) (w : World) (hn : n ≤ 200) (hs : SlC w A n f) (hg : Good n f) (hz : size ≤ 4096) (hr : roomF size f n < 0) :
    Calls Try.prog 51 #[.int .i64 size, .slice A n cap] w fun e w' => e = .returned (.tuple #[.string ⟨#[]⟩, .int .i64 13]) ∧ Ext w w' := by
  have l0 := hg.last0
  have l1 := hg.last
  have hr' : (size : Int) < needsF f n := by unfold roomF at hr; unfold needsF; omega
  go_enter Try.func51, Try.ntmps51
  go_wp2_with (go_at_call 63; refine (needs_any _ _ _ f _ hn hs (fun i hi => (hg.data i hi).2) (by omega) (by omega)).mono ?_; rintro e w1 ⟨rfl, he1⟩)
  go_ret2
  exact ⟨rfl, he1⟩

theorem buf_zero (size : Nat) (f : Nat → Cel) (h : 2 ≤ size) : bufF size 0 f 0 = List.replicate size 0 := by
  obtain ⟨m, rfl⟩ : ∃ m, size = m + 2 := ⟨size - 2, by omega⟩
  simp only [bufF, lastF, if_true, splice, ent]
  show [] ++ ([hi8 0, lo8 0] ++ List.drop (0 + 2) (List.replicate (m + 2) 0)) = _
  have e1 : hi8 0 = 0 := rfl
  have e2 : lo8 0 = 0 := rfl
  rw [e1, e2]
  rfl

theorem filled_none (size : Nat) (A : Option Addr) (cap : Nat) (f : Nat → Cel) (w : World) (hf : Fit size 0 f) :
    Calls Try.prog 51 #[.int .i64 size, .slice A 0 cap] w fun e w' => e = .returned (.tuple #[.string ⟨(bufF size 0 f 0).toArray⟩, .int .i64 0]) ∧ Ext w w' := by
  have z1 := hf.size_le
  have z2 := hf.size_ge
  have e0 : needsF f 0 = 2 := by simp [needsF, lastF, bytesF]
  have HB := Lib.hid (buf_zero size f (by omega))
  go_enter Try.func51, Try.ntmps51
  go_wp2_with (first
    | (go_at_call 63; refine (needs_any _ _ _ f _ (by omega) ⟨fun i hi => by omega⟩ (fun i hi => by omega) (by simp [lastF]) (by simp [lastF])).mono ?_; rintro e w1 ⟨rfl, he1⟩)
    | (refine wpList_make_bytes rfl _ _ rfl size rfl rfl (by omega) ?_; intro g w2 hg2 hb2 he2))
  go_loopw [32] (fun i wr => i = .int .i64 0 ∧ BB wr g (List.replicate size 0) ∧ Ext w wr) (fun _ _ => 0)
  case atStart => exact ⟨rfl, hb2, he1.trans he2⟩
  case round =>
    obtain ⟨rfl, hbr, her⟩ := hrel
    go_wp2_with (refine wpList_text_bb rfl _ rfl g size size _ rfl hbr (by simp) ?_)
    go_ret2
    exact ⟨by rw [HB.out]; rfl, her⟩

set_option maxHeartbeats 1000000 in
theorem filled_fits (size : Nat) (A : Option Addr) (cap n : Nat) (f : Nat → Cel) (w : World) (hn0 : 0 < n) (hn : n ≤ 200) (hs : SlC w A n f) (hg : Good n f) (hf : Fit size n f) :
    Calls Try.prog 51 #[.int .i64 size, .slice A n cap] w fun e w' => e = .returned (.tuple #[.string ⟨(bufF size n f n).toArray⟩, .int .i64 0]) ∧ Ext w w' := by
  have l0 := hg.last0
  have l1 := hg.last
  have z1 := hf.size_le
  have z2 := hf.size_ge
  have hroom := hf.room
  have hr' : ¬ (size : Int) < needsF f n := by unfold needsF; omega
  obtain ⟨b, off, rfl, h1w, h2w⟩ := hs.at_ (n - 1) (by omega)
  have el : lastF f n = (f (n - 1)).1 := by unfold lastF; rw [if_neg (by omega)]
  rw [← el] at h1w
  have hbl : b < w.heap.size := block_lt h1w
  have hd : ((n : Int) - 1).toNat = n - 1 := by omega
  clear el h2w
  go_enter Try.func51, Try.ntmps51
  go_wp2_with (first
    | (go_at_call 63; refine (needs_any _ _ _ f _ hn hs (fun i hi => (hg.data i hi).2) (by omega) (by omega)).mono ?_; rintro e w1 ⟨rfl, he1⟩)
    | (refine wpList_make_bytes rfl _ _ rfl size rfl rfl (by omega) ?_; intro g w2 hg2 hb2 he2; have h1x := (he1.trans he2).cell h1w)
    | (go_at_call 64; refine (put_any _ _ _ _ _ _ hb2 (by simp) (by omega) (by omega) (by omega) (by omega) (by omega)).mono ?_; rintro e w3 ⟨rfl, hb3, hu3⟩))
  have he3 : Ext w w3 := Upd.ext (he1.trans he2) hu3 (by have := he1.size; omega)
  have hbg : b < g := by have := he1.size; omega
  have hwg : w.heap.size ≤ g := by have := he1.size; omega
  have hb0 : BB w3 g (bufF size n f 0) := hb3
  clear hb3 hb2 hu3 h1x
  go_loopw [7, 32] (fun e i wr => ∃ k : Nat, k ≤ n ∧ i = .int .i64 k ∧ e = .int .i64 ((size : Int) - bytesF f k) ∧ BB wr g (bufF size n f k) ∧ Ext w wr) (fun _ i _ => n - (intOf i).toNat)
  case atStart => exact ⟨0, by omega, rfl, by simp [bytesF], hb0, he3⟩
  case round =>
    obtain ⟨k, hk, rfl, rfl, hbr, her⟩ := hrel
    clear hb0 he3
    by_cases hlt : k < n
    · obtain ⟨b', off', e', g1w, g2w⟩ := hs.at_ k hlt
      obtain ⟨rfl, rfl⟩ : b = b' ∧ off = off' := by simpa using e'
      clear e'
      have g1 := her.cell g1w
      have g2 := her.cell g2w
      have p1 := hg.pos k hlt
      have p2 := hg.le k hlt
      have p3 := (hg.data k hlt).1
      have m1 := bytesF_mono f (show k + 1 ≤ n by omega)
      have m2 : bytesF f (k + 1) = bytesF f k + (f k).2.size := rfl
      have m3 : bytesF f k + (f k).2.size ≤ bytesF f n := by omega
      obtain ⟨L, hL⟩ := Int.eq_ofNat_of_zero_le (show 0 ≤ (f k).1 by omega)
      rw [hL] at g1 p1 p2
      have HB := Lib.hid (length_bufF size n f hf k hk)
      have H2 := Lib.hid m2
      have HL := Lib.hid hL
      clear m1 m2 hL
      go_wp2
      have c0 := World.cell?_alloc_mark wr #[.int .i64 (L : Int), .string (f k).2] 85 (0, 0) 0
      have c1 := World.cell?_alloc_mark wr #[.int .i64 (L : Int), .string (f k).2] 85 (0, 0) 1
      have he4 := her.alloc (.cells #[.int .i64 (L : Int), .string (f k).2] 85)
      have hb4 := hbr.alloc (.cells #[.int .i64 (L : Int), .string (f k).2] 85)
      have hcg : wr.heap.size ≠ g := fun e => by have := hbr.lt; omega
      clear hbr her g1 g2
      generalize wr.alloc (.cells #[.int .i64 (L : Int), .string (f k).2] 85) = w4 at *
      generalize wr.heap.size = c at *
      replace c0 : w4.cell? ⟨c, 0, none⟩ = some (.int .i64 (L : Int)) := c0
      replace c1 : w4.cell? ⟨c, 1, none⟩ = some (.string (f k).2) := c1
      have q1 : ((f k).2.size : Int) ≤ (size : Int) - bytesF f k := by omega
      have q2 : (size : Int) - bytesF f k - (f k).2.size ≤ (size : Int) := by omega
      have q3 : ((size : Int) - bytesF f k - (f k).2.size).toNat = size - bytesF f k - (f k).2.size := by omega
      have q4 : ¬ size = size - bytesF f k - (f k).2.size := by omega
      go_region_law (refine step_copy_str rfl _ _ rfl g (size - bytesF f k - (f k).2.size) (size - (size - bytesF f k - (f k).2.size)) (size - (size - bytesF f k - (f k).2.size)) _ _ rfl rfl hb4.drew ?_ ?_ ?_; (omega); (rw [HB.out]; omega); intro w5 hb5 hu5)
      have he5 : Ext w w5 := Upd.ext he4.drew hu5 hwg
      have d0 := Upd.cell (a := w4.drew) hu5 (p := ⟨c, 0, none⟩) c0 hcg
      have d1 := Upd.cell (a := w4.drew) hu5 (p := ⟨c, 1, none⟩) c1 hcg
      have L5 : (splice (bufF size n f k) (size - bytesF f k - (f k).2.size) (f k).2.data.toList).length = size := by
        rw [length_splice _ _ _ (by rw [HB.out]; have : (f k).2.data.toList.length = (f k).2.size := by simp
                                    omega)]; exact HB.out
      have H5 := Lib.hid L5
      clear L5 hu5 he4 hb4 c0 c1 q1 q2 q3 q4
      go_wp2_with fail
      refine (put_any _ _ _ _ _ _ hb5 H5.out (by omega) (by omega) (by omega) (by omega) (by omega)).mono ?_
      rintro e w6 ⟨rfl, hb6, hu6⟩
      have he6 := Upd.ext he5 hu6 hwg
      have d0' := hu6.cell d0 hcg
      have d1' := hu6.cell d1 hcg
      have L6 := length_splice (splice (bufF size n f k) (size - bytesF f k - (f k).2.size) (f k).2.data.toList) ((2 : Int) + 4 * ((L : Int) - 1)).toNat (ent ((size : Int) - bytesF f k - (f k).2.size).toNat) (by rw [H5.out]; show _ + 2 ≤ size; omega)
      rw [H5.out] at L6
      have H6 := Lib.hid L6
      clear L6 hu6 he5 d0 d1
      go_wp2_with fail
      refine (put_any _ _ _ _ _ _ hb6 H6.out (by omega) (by omega) (by omega) (by omega) (by omega)).mono ?_
      rintro e w7 ⟨rfl, hb7, hu7⟩
      have he7 := Upd.ext he6 hu7 hwg
      have hb7' : BB w7 g (bufF size n f (k + 1)) := by
        have e0 : (f k).2.data.toList.length = (f k).2.size := by simp
        have e1 : size - bytesF f (k + 1) = size - bytesF f k - (f k).2.size := by rw [H2.out]; omega
        have e2 : ((size : Int) - bytesF f k - (f k).2.size).toNat = size - bytesF f k - (f k).2.size := by omega
        have e3 : ((2 : Int) + 4 * ((L : Int) - 1)).toNat = 4 * L - 2 := by omega
        have e4 : ((2 : Int) + 4 * ((L : Int) - 1) + 2).toNat = 4 * L := by omega
        have e5 : (((f k).2.size : Nat) : Int).toNat = (f k).2.data.toList.length := by rw [e0]; rfl
        rw [e2, e3, e4, e5, step_comm _ _ L _ _ (by omega) (by omega) (by rw [HB.out, e0]; omega)] at hb7
        unfold bufF
        rw [e1, HL.out]
        rw [e0] at hb7
        exact hb7
      clear hb7 hu7 he6 hb6 hb5
      go_wp2_with fail
      go_roundw
      case rel => exact ⟨k + 1, by omega, by go_num, by rw [H2.out]; go_num, hb7', he7⟩
      case measure => simp [intOf]; omega
    · obtain rfl : k = n := by omega
      go_wp2_with (refine wpList_text_bb rfl _ rfl g size size _ rfl hbr (length_bufF size _ f hf _ (Nat.le_refl _)) ?_)
      go_ret2
      exact ⟨rfl, her⟩
end Go.Proofs.Ytnileonlabpbpaa

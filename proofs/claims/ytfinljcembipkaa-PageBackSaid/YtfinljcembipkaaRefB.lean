/- Contract of the reference's Built: the page of cells that fit. -/
import Derived.Test.YtfinljcembipkaaRefA
import Derived.Test.YtfinljcembipkaaOps
import Derived.Outline
import Derived.Deep.AppendLies
namespace Go.Proofs.Ytfinljcembipkaa
open Go.RowKit
set_option linter.unusedVariables false

/-- the buffer behind k cells -/
def bufF (size n : Nat) (f : Nat → Cel) : Nat → List UInt8
  | 0 => splice (List.replicate size 0) 0 (ent (lastF f n).toNat)
  | k + 1 => splice (splice (splice (bufF size n f k) (4 * (f k).1.toNat - 2) (ent (size - bytesF f (k + 1)))) (4 * (f k).1.toNat) (ent (f k).2.size)) (size - bytesF f (k + 1)) (f k).2.data.toList

/-- cells that are right and fit -/
structure Fit (size n : Nat) (f : Nat → Cel) : Prop where
  n_le : n ≤ 200
  size_le : size ≤ 4096
  size_ge : 32 ≤ size
  pos : ∀ i, i < n → 1 ≤ (f i).1
  le : ∀ i, i < n → (f i).1 ≤ lastF f n
  data : ∀ i, i < n → 0 < (f i).2.size
  room : 2 + 4 * lastF f n + bytesF f n ≤ size
theorem Fit.last0 {size n : Nat} {f : Nat → Cel} (h : Fit size n f) : 0 ≤ lastF f n := by
  unfold lastF
  by_cases h0 : n = 0
  · simp [h0]
  · rw [if_neg h0]; have := h.pos (n - 1) (by omega); omega
theorem bytesF_mono (f : Nat → Cel) {a b : Nat} (h : a ≤ b) : bytesF f a ≤ bytesF f b := by
  induction b with
  | zero => simp at h; subst h; exact Nat.le_refl _
  | succ b ih =>
    rcases Nat.lt_or_ge a (b + 1) with h1 | h1
    · have := ih (by omega); simp only [bytesF]; omega
    · have : a = b + 1 := by omega
      subst this; exact Nat.le_refl _
theorem length_bufF (size n : Nat) (f : Nat → Cel) (h : Fit size n f) : ∀ k, k ≤ n → (bufF size n f k).length = size := by
  have h0 : 2 ≤ size := by have := h.size_ge; omega
  intro k
  induction k with
  | zero => intro _; unfold bufF; rw [length_splice _ _ _ (by simp [ent]; omega)]; simp
  | succ k ih =>
    intro hk
    have ihk := ih (by omega)
    have h1 := h.pos k (by omega)
    have h2 := h.le k (by omega)
    have h3 := h.room
    have h4 := bytesF_mono f hk
    have h5 : bytesF f (k + 1) = bytesF f k + (f k).2.size := rfl
    unfold bufF
    have hd : (f k).2.data.toList.length = (f k).2.size := by simp
    have l1 : (splice (bufF size n f k) (4 * (f k).1.toNat - 2) (ent (size - bytesF f (k + 1)))).length = size := by
      rw [length_splice _ _ _ (by rw [ihk]; show _ + 2 ≤ size; omega)]; exact ihk
    have l2 : (splice (splice (bufF size n f k) (4 * (f k).1.toNat - 2) (ent (size - bytesF f (k + 1)))) (4 * (f k).1.toNat) (ent (f k).2.size)).length = size := by
      rw [length_splice _ _ _ (by rw [l1]; show _ + 2 ≤ size; omega)]; exact l1
    rw [length_splice _ _ _ (by rw [hd, l2]; omega)]; exact l2

theorem refBuilt_any (size : Nat) (A : Option Addr) (cap n : Nat) (f : Nat → Cel) (w : World) (hs : SlC w A n f) (hf : Fit size n f) (hn : n ≤ 200) :
    Calls Try.prog 47 #[.int .i64 size, .slice A n cap] w fun e w' => e = .returned (.string ⟨(bufF size n f n).toArray⟩) ∧ Ext w w' := by
  have z1 := hf.size_le
  have z2 := hf.size_ge
  go_enter Try.func47, Try.ntmps47
  go_wp2_with (refine wpList_make_bytes rfl _ _ rfl size rfl rfl (by omega) ?_; intro g w1 hg hb1 he1)
  refine (refLast_any _ _ _ f _ (by omega) (hs.ext he1)).mono ?_
  rintro e w' ⟨rfl, rfl⟩
  have l0 := hf.last0
  have hroom := hf.room
  go_wp2_with fail
  refine (refTwo_any _ _ l0 (by omega)).mono ?_
  rintro e w2 ⟨g2, rfl, hg2, hb2, he2⟩
  go_wp2_with (refine wpList_copy_bb rfl _ _ rfl g 0 size size g2 2 2 _ _ rfl rfl (hb1.ext he2) hb2 rfl (by omega) (by simp; omega) ?_; intro w3 hb3 hu3)
  have he3 : Ext w w3 := Upd.ext (he1.trans he2) hu3 hg
  clear hu3 hb2 hb1
  go_loopw [6, 7] (fun e i wr => ∃ k : Nat, k ≤ n ∧ i = .int .i64 k ∧ e = .int .i64 ((size : Int) - bytesF f k) ∧ BB wr g (bufF size n f k) ∧ Ext w wr) (fun _ i _ => n - (intOf i).toNat)
  case atStart => exact ⟨0, by omega, rfl, by simp [bytesF], hb3, he3⟩
  case round =>
    obtain ⟨k, hk, rfl, rfl, hbr, her⟩ := hrel
    clear hb3 he3
    by_cases hlt : k < n
    · obtain ⟨b, off, rfl, h1w, h2w⟩ := hs.at_ k hlt
      have h1 := her.cell h1w
      have h2 := her.cell h2w
      have hd5 : (f k).2.data.toList.length = (f k).2.size := by simp
      have p1 := hf.pos k hlt
      have p2 := hf.le k hlt
      have p3 := hf.data k hlt
      have m1 := bytesF_mono f (show k + 1 ≤ n by omega)
      have m2 : bytesF f (k + 1) = bytesF f k + (f k).2.size := rfl
      have m3 : bytesF f k + (f k).2.size ≤ bytesF f n := by omega
      obtain ⟨L, hL⟩ := Int.eq_ofNat_of_zero_le (show 0 ≤ (f k).1 by omega)
      have lb := length_bufF size n f hf k hk
      rw [hL] at h1 p1 p2
      have H2 := Lib.hid m2
      have HL := Lib.hid hL
      have HB := Lib.hid lb
      have HD := Lib.hid hd5
      clear hd5
      clear m1 m2 hL lb
      go_wp2_with fail
      have q1 : (2 : Int) ≤ 4 * (L : Int) := by omega
      have q2 : 4 * (L : Int) - 2 ≤ (size : Int) := by omega
      have q3 : (4 * (L : Int) - 2).toNat = 4 * L - 2 := by omega
      have q4 : ¬ size = 4 * L - 2 := by omega
      go_region_law (first
        | (refine step_copy_bb rfl _ _ rfl g (4 * L - 2) (size - (4 * L - 2)) (size - (4 * L - 2)) g4 2 2 _ _ rfl rfl (hbr.drew.ext he4) hb4 rfl ?_ ?_ ?_; (omega); (rw [HB.out]; omega); intro w5 hb5 hu5)
        | (go_simp; go_at_call 71; refine (refTwo_any _ _ ?_ ?_).mono ?_; (omega); (omega); rintro e w4 ⟨g4, rfl, hg4, hb4, he4⟩))
      have he5 : Ext w w5 := Upd.ext ((her.drew).trans he4) hu5 hg
      have h2b := he5.cell h2w
      have L5 : (splice (bufF size n f k) (4 * L - 2) (ent ((size : Int) - bytesF f k - (f k).2.size).toNat)).length = size := by
        rw [length_splice _ _ _ (by rw [HB.out]; show _ + 2 ≤ size; omega)]; exact HB.out
      have H5 := Lib.hid L5
      clear L5 hu5 hb4 he4 h1 h2 hbr q1 q2 q3 q4
      go_wp2_with fail
      have q1 : (2 : Int) ≤ 4 * (L : Int) := by omega
      have q2 : 4 * (L : Int) ≤ (size : Int) := by omega
      have q3 : (4 * (L : Int)).toNat = 4 * L := by omega
      have q4 : ¬ size = 4 * L := by omega
      have q5 : (0 : Int) ≤ 4 * (L : Int) := by omega
      have q0 : IntKind.i64.wrap (4 * (L : Int)) = 4 * (L : Int) := IntWalk.i64_in _ (by omega)
      go_region_law (first
        | (refine step_copy_bb rfl _ _ rfl g (4 * L) (size - 4 * L) (size - 4 * L) g6 2 2 _ _ rfl rfl (hb5.drew.ext he6) hb6 rfl ?_ ?_ ?_; (omega); (rw [H5.out]; omega); intro w7 hb7 hu7)
        | (go_simp; go_at_call 71; refine (refTwo_any _ _ ?_ ?_).mono ?_; (omega); (omega); rintro e w6 ⟨g6, rfl, hg6, hb6, he6⟩))
      have he7 : Ext w w7 := Upd.ext ((he5.drew).trans he6) hu7 hg
      have h2c := he7.cell h2w
      clear hu7 hb6 he6 h2b hb5 q0 q1 q2 q3 q4 q5
      have L7 : (splice (splice (bufF size n f k) (4 * L - 2) (ent ((size : Int) - bytesF f k - (f k).2.size).toNat)) (4 * L) (ent ((f k).2.size : Int).toNat)).length = size := by
        rw [length_splice _ _ _ (by rw [H5.out]; show _ + 2 ≤ size; omega)]; exact H5.out
      have H7 := Lib.hid L7
      clear L7
      go_wp2_with fail
      have q1 : ((f k).2.size : Int) ≤ (size : Int) - bytesF f k := by omega
      have q2 : (size : Int) - bytesF f k - (f k).2.size ≤ (size : Int) := by omega
      have q3 : ((size : Int) - bytesF f k - (f k).2.size).toNat = size - bytesF f k - (f k).2.size := by omega
      have q4 : ¬ size = size - bytesF f k - (f k).2.size := by omega
      go_region_law (refine step_copy_str rfl _ _ rfl g (size - bytesF f k - (f k).2.size) (size - (size - bytesF f k - (f k).2.size)) (size - (size - bytesF f k - (f k).2.size)) _ _ rfl rfl hb7.drew ?_ ?_ ?_; (omega); (rw [H7.out]; omega); intro w9 hb9 hu9)
      have he9 : Ext w w9 := Upd.ext he7.drew hu9 hg
      have hb9' : BB w9 g (bufF size n f (k + 1)) := by
        have e1 : size - bytesF f (k + 1) = size - bytesF f k - (f k).2.size := by rw [H2.out]; omega
        have e2 : ((size : Int) - bytesF f k - (f k).2.size).toNat = size - bytesF f k - (f k).2.size := by omega
        unfold bufF
        rw [e1, HL.out]
        rw [e2] at hb9
        exact hb9
      clear hu9 hb9 h2c hb7 q1 q2 q3 q4
      go_wp2_with fail
      go_roundw
      case rel => exact ⟨k + 1, by omega, by go_num, by rw [H2.out]; go_num, hb9', he9⟩
      case measure => simp [intOf]; omega
    · obtain rfl : k = n := by omega
      go_wp2_with (refine wpList_text_bb rfl _ rfl g size size _ rfl hbr (length_bufF size _ f hf _ (Nat.le_refl _)) ?_)
      go_ret
      exact ⟨rfl, her⟩
end Go.Proofs.Ytfinljcembipkaa

/- Rings: Shift of the program; Insert, Remove, Shift of the reference. -/
import Derived.Test.YthmcdlieglollaaChC5
import Derived.Lib.SliceRun
namespace Go.Proofs.Ythmcdlieglollaa
open Go.RowKit Go.Sort Go.Maps
set_option linter.unusedVariables false
set_option linter.unusedSimpArgs false
set_option linter.unusedSectionVars false
set_option maxRecDepth 20000
attribute [local go_sem] Oper.semAt_some

theorem clone_any (P : Option Addr) (cap : Nat) (l : List Lk) {w : World} (h : SlL w P cap l) (h0 : 0 < l.length) (hn : l.length ≤ 1000) :
    Calls Try.prog 70 #[.slice P l.length cap] w fun e w' => (∃ v, e = .returned v ∧ ResL w' v l) ∧ Ext w w' := by
  obtain ⟨b, off, rfl, _⟩ := h.lkAt 0 h0
  have HN := Lib.hid hn
  clear h0 hn
  have qT : ∀ (w : World) (a : Option Addr) (n c n' c' : Nat), (binOp .eql 25 (.slice a n c) (.slice none n' c')).run Try.prog w = .ok (.bool a.isNone) w := fun w a n c n' c' => Lib.run_eql_slice_nil w _ _ a n c n' c' Try.underlying25
  go_enter Try.func70, Try.ntmps70
  go_wp2_with (at_builtin; refine wpList_app_G _ elemL rfl _ _ rfl (base := w.heap.size) rfl (OwnG.lit0 (Nat.le_refl _)) (m := l) rfl (h.ext ((Ext.refl _).alloc _)) (fun e => by cases e) ?d2 ?d3 ?d4 ?_; rotate_right 1; intro v7 w7 ho7 hx7; rw [List.nil_append] at ho7)
  case d2 => have := HN.out; simp; omega
  case d3 => have := HN.out; simp; omega
  case d4 => simp
  go_ret
  exact ⟨⟨_, rfl, ho7.res elemL (by have := HN.out; omega)⟩, below_ext ((Ext.refl w).alloc _) hx7 (Nat.le_refl _)⟩
set_option maxHeartbeats 4000000 in
theorem shift_any (P : Option Addr) (cap : Nat) (l : List Lk) (o : Int) (ms : List Int) (k a : Int) (hlb : l = builtF o ms) (hr : Right (o :: ms)) {w : World} (h : SlL w P cap l) (hk : OkI k) (ha : OkI a) (hn : ms.length ≤ 200) :
    Calls Try.prog 40 #[.slice P l.length cap, .int .i64 k, .int .i64 a] w fun e w' => (∃ v, e = .returned (.tuple #[v, .int .i64 (shE o ms k a)]) ∧ ResL w' v (shL o ms k a)) ∧ Ext w w' := by
  have hV := valid_any P cap l w h (by rw [hlb]; exact built_okK hr)
  rw [show validB l = true from by rw [hlb]; exact validB_built hr] at hV
  rcases sh_cases o ms k a with ⟨h1, he, hl⟩ | ⟨h1, h2, he, hl⟩ | ⟨h1, h2, h3, he, hl⟩ | ⟨i, h1, h2, h3, h4, h5, he, hl⟩ | ⟨j, h1, h2, h3, h4, h5, he, hl⟩ | ⟨i, h1, h2, h3, h4, h5, h6, he, hl⟩ | ⟨i, j, h1, h2, h3, h4, h5, h6, h7, h8, he, hl⟩
  · have hKk := fun W => key_any k W
    rw [h1] at hKk
    clear h1
    have HE := Lib.hid he
    have HL := Lib.hid hl
    rw [HE.out, HL.out]
    clear he hl hlb
    go_enter Try.func40, Try.ntmps40
    go_wp2_with (first
      | (go_at_call 14; refine hV.mono ?_; rintro e w1 ⟨rfl, hx1⟩; have s1 := h.ext hx1)
      | (go_at_call 48; (with_reducible refine (hKk _).mono ?_); rintro e w2 ⟨rfl, rfl⟩))
    go_ret2
    exact ⟨⟨_, rfl, ResG.nil _ _⟩, hx1⟩
  · have hKk := fun W => key_any k W
    rw [h1] at hKk
    clear h1
    have hKa := fun W => key_any a W
    rw [h2] at hKa
    clear h2
    have HE := Lib.hid he
    have HL := Lib.hid hl
    rw [HE.out, HL.out]
    clear he hl hlb
    go_enter Try.func40, Try.ntmps40
    go_wp2_with (first
      | (go_at_call 14; refine hV.mono ?_; rintro e w1 ⟨rfl, hx1⟩; have s1 := h.ext hx1)
      | (go_at_call 48; (with_reducible refine (hKk _).mono ?_); rintro e w2 ⟨rfl, rfl⟩)
      | (go_at_call 48; (with_reducible refine (hKa _).mono ?_); rintro e w2 ⟨rfl, rfl⟩))
    go_ret2
    exact ⟨⟨_, rfl, ResG.nil _ _⟩, hx1⟩
  · have hA := fun {W} hs => asked_no P cap l o ms k hlb hr (w := W) hs hk h3
    have hKk := fun W => key_any k W
    rw [h1] at hKk
    clear h1
    have hKa := fun W => key_any a W
    rw [h2] at hKa
    clear h2
    have HE := Lib.hid he
    have HL := Lib.hid hl
    rw [HE.out, HL.out]
    rcases in_round (o := o) (ms := ms) a with h6 | ⟨j, h6, h7, _⟩
    · have hF := fun W hs => find_built P cap l o ms a hlb hr W hs ha h6
      clear he hl hlb h3 h6
      go_enter Try.func40, Try.ntmps40
      go_wp2_with (first
        | (go_at_call 14; refine hV.mono ?_; rintro e w1 ⟨rfl, hx1⟩; have s1 := h.ext hx1)
        | (go_at_call 48; (with_reducible refine (hKk _).mono ?_); rintro e w2 ⟨rfl, rfl⟩)
        | (go_at_call 48; (with_reducible refine (hKa _).mono ?_); rintro e w2 ⟨rfl, rfl⟩)
        | (go_at_call 67; refine (hA s1).mono ?_; rintro e w3 ⟨rfl, hx3⟩; have s3 := s1.ext hx3)
        | (go_at_call 49; refine (hF _ s3).mono ?_; rintro e w4 ⟨⟨z, rfl⟩, hx4⟩; have s4 := s3.ext hx4))
      go_ret2
      exact ⟨⟨_, rfl, ResG.nil _ _⟩, hx1.trans (hx3.trans (hx4))⟩
    · have hF := fun W hs => find_place P cap l o ms a j hlb hr W hs ha h6 h7
      clear he hl hlb h3 h6 h7
      go_enter Try.func40, Try.ntmps40
      go_wp2_with (first
        | (go_at_call 14; refine hV.mono ?_; rintro e w1 ⟨rfl, hx1⟩; have s1 := h.ext hx1)
        | (go_at_call 48; (with_reducible refine (hKk _).mono ?_); rintro e w2 ⟨rfl, rfl⟩)
        | (go_at_call 48; (with_reducible refine (hKa _).mono ?_); rintro e w2 ⟨rfl, rfl⟩)
        | (go_at_call 67; refine (hA s1).mono ?_; rintro e w3 ⟨rfl, hx3⟩; have s3 := s1.ext hx3)
        | (go_at_call 49; refine (hF _ s3).mono ?_; rintro e w4 ⟨rfl, hx4⟩; have s4 := s3.ext hx4))
      go_ret2
      exact ⟨⟨_, rfl, ResG.nil _ _⟩, hx1.trans (hx3.trans (hx4))⟩
  · have hF := fun W hs => find_built P cap l o ms a hlb hr W hs ha h5
    have hKk := fun W => key_any k W
    rw [h1] at hKk
    clear h1
    have hKa := fun W => key_any a W
    rw [h2] at hKa
    clear h2
    have HE := Lib.hid he
    have HL := Lib.hid hl
    rw [HE.out, HL.out]
    have hb : (k == o) = true ∨ (k == o) = false := by cases (k == o) <;> simp
    rcases hb with hb | hb
    · have hA := fun {W} hs => asked_yes P cap l o ms k i hlb hr (w := W) hs hk h3 h4 true hb
      simp only [cond_true] at hA
      clear he hl hlb h3 h4 h5 hb
      go_enter Try.func40, Try.ntmps40
      go_wp2_with (first
        | (go_at_call 14; refine hV.mono ?_; rintro e w1 ⟨rfl, hx1⟩; have s1 := h.ext hx1)
        | (go_at_call 48; (with_reducible refine (hKk _).mono ?_); rintro e w2 ⟨rfl, rfl⟩)
        | (go_at_call 48; (with_reducible refine (hKa _).mono ?_); rintro e w2 ⟨rfl, rfl⟩)
        | (go_at_call 67; refine (hA s1).mono ?_; rintro e w3 ⟨rfl, hx3⟩; have s3 := s1.ext hx3)
        | (go_at_call 49; refine (hF _ s3).mono ?_; rintro e w4 ⟨⟨z, rfl⟩, hx4⟩; have s4 := s3.ext hx4))
      go_ret2
      exact ⟨⟨_, rfl, ResG.nil _ _⟩, hx1.trans (hx3.trans (hx4))⟩
    · have hA := fun {W} hs => asked_yes P cap l o ms k i hlb hr (w := W) hs hk h3 h4 false hb
      simp only [cond_false] at hA
      clear he hl hlb h3 h4 h5 hb
      go_enter Try.func40, Try.ntmps40
      go_wp2_with (first
        | (go_at_call 14; refine hV.mono ?_; rintro e w1 ⟨rfl, hx1⟩; have s1 := h.ext hx1)
        | (go_at_call 48; (with_reducible refine (hKk _).mono ?_); rintro e w2 ⟨rfl, rfl⟩)
        | (go_at_call 48; (with_reducible refine (hKa _).mono ?_); rintro e w2 ⟨rfl, rfl⟩)
        | (go_at_call 67; refine (hA s1).mono ?_; rintro e w3 ⟨rfl, hx3⟩; have s3 := s1.ext hx3)
        | (go_at_call 49; refine (hF _ s3).mono ?_; rintro e w4 ⟨⟨z, rfl⟩, hx4⟩; have s4 := s3.ext hx4))
      go_ret2
      exact ⟨⟨_, rfl, ResG.nil _ _⟩, hx1.trans (hx3.trans (hx4))⟩
  · have hF := fun W hs => find_place P cap l o ms a j hlb hr W hs ha h4 h5
    have hA := fun {W} hs => asked_yes P cap l o ms k 0 hlb hr (w := W) hs hk (by omega) h3.symm true (by simpa using h3)
    simp only [cond_true] at hA
    have hKk := fun W => key_any k W
    rw [h1] at hKk
    clear h1
    have hKa := fun W => key_any a W
    rw [h2] at hKa
    clear h2
    have HE := Lib.hid he
    have HL := Lib.hid hl
    rw [HE.out, HL.out]
    clear he hl hlb h3 h4 h5
    go_enter Try.func40, Try.ntmps40
    go_wp2_with (first
      | (go_at_call 14; refine hV.mono ?_; rintro e w1 ⟨rfl, hx1⟩; have s1 := h.ext hx1)
      | (go_at_call 48; (with_reducible refine (hKk _).mono ?_); rintro e w2 ⟨rfl, rfl⟩)
      | (go_at_call 48; (with_reducible refine (hKa _).mono ?_); rintro e w2 ⟨rfl, rfl⟩)
      | (go_at_call 67; refine (hA s1).mono ?_; rintro e w3 ⟨rfl, hx3⟩; have s3 := s1.ext hx3)
      | (go_at_call 49; refine (hF _ s3).mono ?_; rintro e w4 ⟨rfl, hx4⟩; have s4 := s3.ext hx4))
    go_ret2
    exact ⟨⟨_, rfl, ResG.nil _ _⟩, hx1.trans (hx3.trans (hx4))⟩
  · have hA := fun {W} hs => asked_yes P cap l o ms k i hlb hr (w := W) hs hk h3 h4 false (by simpa using h5)
    simp only [cond_false] at hA
    have hF := fun W hs => find_place P cap l o ms a i hlb hr W hs ha h3 (h4.trans h6)
    have hlen : l.length = ms.length + 1 := by rw [hlb]; exact built_len o ms
    have hC := fun {W} hs => clone_any P cap l (w := W) hs (by omega) (by omega)
    rw [hlb] at hC
    have HLB := Lib.hid hlb
    have e6 : (k == a) = true := by simpa using h6
    have hKk := fun W => key_any k W
    rw [h1] at hKk
    clear h1
    have hKa := fun W => key_any a W
    rw [h2] at hKa
    clear h2
    have HE := Lib.hid he
    have HL := Lib.hid hl
    rw [HE.out, HL.out]
    rw [← HLB.out] at hC ⊢
    clear he hl hlb h3 h4 h5 h6 hlen
    go_enter Try.func40, Try.ntmps40
    go_wp2_with (first
      | (go_at_call 14; refine hV.mono ?_; rintro e w1 ⟨rfl, hx1⟩; have s1 := h.ext hx1)
      | (go_at_call 48; (with_reducible refine (hKk _).mono ?_); rintro e w2 ⟨rfl, rfl⟩)
      | (go_at_call 48; (with_reducible refine (hKa _).mono ?_); rintro e w2 ⟨rfl, rfl⟩)
      | (go_at_call 67; refine (hA s1).mono ?_; rintro e w3 ⟨rfl, hx3⟩; have s3 := s1.ext hx3)
      | (go_at_call 49; refine (hF _ s3).mono ?_; rintro e w4 ⟨rfl, hx4⟩; have s4 := s3.ext hx4)
      | (go_at_call 70; refine (hC s4).mono ?_; rintro e w5 ⟨⟨v5, rfl, hv5⟩, hx5⟩))
    go_ret2
    exact ⟨⟨_, rfl, hv5⟩, hx1.trans (hx3.trans (hx4.trans (hx5)))⟩
  · have hA := fun {W} hs => asked_yes P cap l o ms k i hlb hr (w := W) hs hk h3 h4 false (by simpa using h5)
    simp only [cond_false] at hA
    have hF := fun W hs => find_place P cap l o ms a j hlb hr W hs ha h6 h7
    have hW := fun {W} hs => without_any P cap l o ms k hlb hr (w := W) hs
    have hrr := right_rem k hr
    have hkn : k ∉ o :: remF ms k := by
      simp only [List.mem_cons, not_or]
      refine ⟨h5, fun hm => ?_⟩
      unfold remF at hm
      rw [List.mem_filter] at hm
      simpa using hm.2
    have hrl : (remF ms k).length ≤ ms.length := List.length_filter_le _ _
    have hPt := fun {W Q c} hs => put_any Q c (builtF o (remF ms k)) o (remF ms k) a k rfl hrr (right_ins hrr h1 hkn (by omega)) (w := W) hs
    have e6 : (k == a) = false := by simpa using h8
    have hKk := fun W => key_any k W
    rw [h1] at hKk
    clear h1
    have hKa := fun W => key_any a W
    rw [h2] at hKa
    clear h2
    have HE := Lib.hid he
    have HL := Lib.hid hl
    rw [HE.out, HL.out]
    clear he hl hlb h3 h4 h5 h6 h7 h8 hkn hrl hrr
    go_enter Try.func40, Try.ntmps40
    go_wp2_with (first
      | (go_at_call 14; refine hV.mono ?_; rintro e w1 ⟨rfl, hx1⟩; have s1 := h.ext hx1)
      | (go_at_call 48; (with_reducible refine (hKk _).mono ?_); rintro e w2 ⟨rfl, rfl⟩)
      | (go_at_call 48; (with_reducible refine (hKa _).mono ?_); rintro e w2 ⟨rfl, rfl⟩)
      | (go_at_call 67; refine (hA s1).mono ?_; rintro e w3 ⟨rfl, hx3⟩; have s3 := s1.ext hx3)
      | (go_at_call 49; refine (hF _ s3).mono ?_; rintro e w4 ⟨rfl, hx4⟩; have s4 := s3.ext hx4)
      | (go_at_call 68; refine (hW s4).mono ?_; rintro e w5 ⟨⟨v5, rfl, P5, c5, rfl, t5, q5⟩, hx5⟩)
      | (go_at_call 65; refine (hPt t5).mono ?_; rintro e w6 ⟨⟨v6, rfl, hv6⟩, hx6⟩))
    go_ret2
    exact ⟨⟨_, rfl, hv6⟩, hx1.trans (hx3.trans (hx4.trans (hx5.trans (hx6))))⟩
end Go.Proofs.Ythmcdlieglollaa

/- The members of a ring: the iterator, both ways. -/
import Derived.Test.YthmcdlieglollaaChK
import Derived.Deep.RegionHeld3
import Derived.StillTailTactics
import Derived.Sort.LoopGhostIn
namespace Go.Proofs.Ythmcdlieglollaa
open Go.RowKit Go.Sort
set_option linter.unusedVariables false
set_option linter.unusedSimpArgs false
set_option linter.unusedSectionVars false
set_option maxRecDepth 100000
attribute [local go_sem] Oper.semAt_some

theorem on_any (x : Lk) (w : World) : Calls Try.prog 78 #[x.v] w fun e w' => e = .returned (.int .i64 x.2.1) ∧ Ext w w' := by
  obtain ⟨a, b, c, d⟩ := x
  show Calls _ _ #[.agg #[.int .i64 a, .int .i64 b, .int .i64 c, .int .i64 d]] _ _
  go_enter Try.func78, Try.ntmps78
  go_wp2
  go_ret
  exact ⟨rfl, (Ext.refl w).alloc _⟩
theorem back_any (x : Lk) (w : World) : Calls Try.prog 57 #[x.v] w fun e w' => e = .returned (.int .i64 x.2.2.1) ∧ Ext w w' := by
  obtain ⟨a, b, c, d⟩ := x
  show Calls _ _ #[.agg #[.int .i64 a, .int .i64 b, .int .i64 c, .int .i64 d]] _ _
  go_enter Try.func57, Try.ntmps57
  go_wp2
  go_ret
  exact ⟨rfl, (Ext.refl w).alloc _⟩
theorem members_any (P : Option Addr) (n cap : Nat) (g : Nat) (w : World) :
    Calls Try.prog 56 #[.slice P n cap, .func (.func g) #[] #[]] w fun e w' => e = .returned (.func (.func 80) #[] #[.pointer (some ⟨w.heap.size, 0, none⟩), .pointer (some ⟨w.heap.size + 1, 0, none⟩)]) ∧ w' = (w.alloc (.cells #[.slice P n cap] 25)).alloc (.cells #[.func (.func g) #[] #[]] 67) := by
  go_enter Try.func56, Try.ntmps56
  go_wp2
  go_ret
  exact ⟨rfl, rfl⟩
/-- a way through a ring: the round's places, one behind the other -/
structure Way (o : Int) (ms : List Int) (dir : Lk → Int) (r : Nat → Nat) : Prop where
  zero : r 0 = 0
  lt : ∀ j, r j < ms.length + 1
  step : ∀ j, j ≤ ms.length → dir (lkF (o :: ms) o (nthI (o :: ms) (r j))) = nthI (o :: ms) (r (j + 1))
  ne : ∀ j, j < ms.length → r (j + 1) ≠ 0
  last : r (ms.length + 1) = 0
set_option maxHeartbeats 8000000 in
theorem members_seq (P : Option Addr) (cap : Nat) (l : List Lk) (o : Int) (ms : List Int) (c d g : Nat) (dir : Lk → Int) (r : Nat → Nat) (hlb : l = builtF o ms) (hr : Right (o :: ms)) (hw : Way o ms dir r) (hG : ∀ x W, Calls Try.prog g #[Lk.v x] W fun e w' => e = .returned (.int .i64 (dir x)) ∧ Ext W w') (eg : ∀ args w, (callFunc g args).run Try.prog w = .ok (.enter g args) w) :
    SeqP Try.prog 80 #[.pointer (some ⟨c, 0, none⟩), .pointer (some ⟨d, 0, none⟩)] (fun i => #[.int .i64 (nthI (o :: ms) (r (i + 1)))]) ms.length
      (fun A => A.cell? ⟨c, 0, none⟩ = some (.slice P l.length cap) ∧ A.cell? ⟨d, 0, none⟩ = some (.func (.func g) #[] #[]) ∧ SlL A P cap l) := by
  intro lq J Jx Jp W hJ hJx hK hY h0
  have hlen := built_len o ms
  rw [← hlb] at hlen
  have hle := hr.le
  simp only [List.length_cons] at hle
  have hl5 : l.length ≤ 500 := by omega
  have hfind : ∀ j W, SlL W P cap l → Calls Try.prog 49 #[.slice P l.length cap, .int .i64 (nthI (o :: ms) (r j))] W fun e w' => e = .returned (.tuple #[.int .i64 (placeF o ms (r j)), .bool true]) ∧ Ext W w' := fun j W hs => by
    have hp := place_ok hr (hw.lt j)
    have := find_yes P cap l (placeF o ms (r j)) W hs (by omega) (by rw [hlb]; intro i hi; exact built_good1 hr i (by rw [built_len] at hi; exact hi)) (by rw [hlen]; exact hp.1)
    rw [hlb, hp.2.2, ← hlb] at this
    exact this
  have HPL := Lib.hid (show ∀ j, placeF o ms (r j) < l.length ∧ nthL l (placeF o ms (r j)) = lkF (o :: ms) o (nthI (o :: ms) (r j)) from fun j => by
    have hp := place_ok hr (hw.lt j)
    exact ⟨by rw [hlen]; exact hp.1, by rw [hlb]; exact hp.2.2⟩)
  have HOWN := Lib.hid (show own l = o from by rw [hlb]; exact built_own o ms)
  have HLN := Lib.hid hlen
  have HF := Lib.hid hfind
  have HR := Lib.hid hr
  have HW := Lib.hid hw
  have hl0 : 0 < l.length := by omega
  obtain ⟨hc0, hd0, hs0⟩ := hK 0 W h0
  obtain ⟨b0, off0, hP0, _, _, _, z3⟩ := hs0.lkAt 0 hl0
  subst hP0
  simp only [Nat.zero_mul, Nat.add_zero] at z3
  rw [show (nthL l 0).2.2.2 = own l from rfl, HOWN.out] at z3
  have hlt0 : (0 : Int) < l.length := by omega
  have hf0 := fun W hs => hfind 0 W hs
  rw [hw.zero] at hf0
  simp only [show nthI (o :: ms) 0 = o from rfl] at hf0
  clear hlen hle hlb hr hw hfind
  -- the link at a place, read and asked for the next one, in a world that has come so far
  refine callsIn_of_wp Try.func80 rfl trivial ?_ rfl
  simp only [Try.ntmps80, List.size_toArray, List.length_cons, List.length_nil, Nat.reduceAdd, Nat.reduceSub, Array.replicate_succ, Array.replicate_zero, List.push_toArray, List.append_toArray, List.nil_append, List.cons_append]
  gi_wp2_with (refine ⟨trivial, rfl, ?_⟩; refine (callsIn_wide.2 (hf0 _ hs0)).mono ?_; rintro e w1 ⟨rfl, hx1⟩)
  have hj1 : J 0 w1 := hJ _ _ _ h0 hx1
  have h00 := HW.out.zero
  rw [show placeF o ms 0 = placeF o ms (r 0) from by rw [h00]]
  obtain ⟨hc1, hd1, hs1⟩ := hK 0 w1 hj1
  obtain ⟨b1, off1, hP1, g0, g1, g2, g3⟩ := hs1.lkAt (placeF o ms (r 0)) (HPL.out 0).1
  injection hP1 with hP1
  injection hP1 with hP11 hP12
  subst hP11 hP12
  have HD := Lib.hid (show dir (nthL l (placeF o ms (r 0))) = nthI (o :: ms) (r (0 + 1)) from by rw [(HPL.out 0).2]; exact HW.out.step 0 (by omega))
  have cp : ((placeF o ms (r 0) : Nat) : Int) < l.length := by have := (HPL.out 0).1; omega
  have hGx := fun W => hG (nthL l (placeF o ms (r 0))) W
  rw [HD.out] at hGx
  unfold Lk.v at hGx
  clear h00 hf0 z3
  generalize hpp : placeF o ms (r 0) = p0 at *
  clear hpp
  generalize nthL l p0 = x at *
  refine wpIn_wide.2 ?_
  go_still_tail 6, (by kernel_rfl)
  change wpList _ _ _ _ _ w1.drew
  have hxd : Ext w1 w1.drew := (Ext.refl _).drew
  have hj2 := hJ _ _ _ hj1 hxd
  generalize w1.drew = w2 at *
  go_wp2_with (refine (hGx _).mono ?_; rintro e w3 ⟨rfl, hx3⟩)
  have hj3 := hJ _ _ _ hj2 hx3
  have HRN := Lib.hid HR.out.nodup
  clear hGx HD g0 g1 g2 g3 hc0 hd0 hs0 hc1 hd1 hs1 h0 hj1 hj2 cp hlt0
  gi_wp2
  gi_loopg [7] ms.length (fun k i wr => ∃ j : Nat, k + j = ms.length ∧ i = .int .i64 (nthI (o :: ms) (r (j + 1))) ∧ J j wr)
  case atStart => exact ⟨0, by omega, rfl, hj3⟩
  case round =>
    obtain ⟨j, hk, rfl, hj⟩ := hrel
    have hjm : j ≤ ms.length := by omega
    by_cases hlt : j < ms.length
    · have hne : nthI (o :: ms) (r (j + 1)) ≠ o := fun e => by
        have h1 := nodup_inj HRN.out (i := r (j + 1)) (j := 0) (by have := HW.out.lt (j + 1); simpa using this) (by simp) e
        exact HW.out.ne j hlt h1
      have hne' : (nthI (o :: ms) (r (j + 1)) != o) = true := by simpa using hne
      obtain ⟨gp, rfl⟩ : ∃ gp, gk = gp + 1 := ⟨gk - 1, by omega⟩
      have HGK := Lib.hid hk
      obtain ⟨fn, tmps, assign, body, hy, hR⟩ := hY j wr hj hlt
      have HFJ := Lib.hid (HF.out (j + 1))
      have HPJ := Lib.hid (HPL.out (j + 1))
      have HDJ := Lib.hid (show dir (nthL l (placeF o ms (r (j + 1)))) = nthI (o :: ms) (r (j + 1 + 1)) from by rw [(HPL.out (j + 1)).2]; exact HW.out.step (j + 1) (by omega))
      clear hne hk
      generalize hkey : nthI (o :: ms) (r (j + 1)) = key at *
      clear hkey
      gi_wp2_with (first
        | (refine ⟨trivial, rfl, ?_⟩; refine (callsIn_wide.2 (HFJ.out _ hs3)).mono ?_; rintro e w5 ⟨rfl, hx5⟩)
        | (refine ⟨rfl, ?_⟩; refine hR.mono ?_; intro e W3 h3; rcases yield_cases h3 with ⟨ch, rfl, hp3⟩ | ⟨t, rfl, h4⟩; exact ⟨rfl, .inr ⟨j, ch, hlt, rfl, hp3⟩⟩; clear h3; rcases h4 with ⟨rfl, hj3⟩ | ⟨rfl, hx3⟩; obtain ⟨hc3, hd3, hs3⟩ := hK _ _ hj3))
      all_goals first
        | (refine bodyPost_ret (results_none rfl _ _ _) rfl ?_
           exact .inl ⟨⟨_, rfl⟩, .inr ⟨j, hlt, hx3⟩⟩)
        | skip
      have hj5 : J (j + 1) w5 := hJ _ _ _ hj3 hx5
      obtain ⟨hc5, hd5, hs5⟩ := hK _ _ hj5
      obtain ⟨b1, off1, hP1, g0, g1, g2, g3⟩ := hs5.lkAt (placeF o ms (r (j + 1))) HPJ.out.1
      injection hP1 with hP1
      injection hP1 with hP11 hP12
      subst hP11 hP12
      have cp : ((placeF o ms (r (j + 1)) : Nat) : Int) < l.length := by have := HPJ.out.1; omega
      have hGx := fun W => hG (nthL l (placeF o ms (r (j + 1)))) W
      rw [HDJ.out] at hGx
      unfold Lk.v at hGx
      clear HDJ HPJ hc3 hd3 hs3 hR hy
      generalize placeF o ms (r (j + 1)) = p1 at *
      generalize nthL l p1 = y at *
      refine wpIn_wide.2 ?_
      go_still_tail 6, (by kernel_rfl)
      change wpList _ _ _ _ _ w5.drew
      have hj6 := hJ _ _ _ hj5 ((Ext.refl w5).drew)
      generalize w5.drew = w6 at *
      go_wp2_with (refine (hGx _).mono ?_; rintro e w7 ⟨rfl, hx7⟩)
      have hj7 := hJ _ _ _ hj6 hx7
      gi_roundg gp
      case measure => omega
      case rel => exact ⟨j + 1, by have := HGK.out; omega, rfl, hj7⟩
    · obtain rfl : j = ms.length := by omega
      have he : nthI (o :: ms) (r (ms.length + 1)) = o := by rw [HW.out.last]; rfl
      rw [he]
      have hne' : (o != o) = false := by simp
      clear he
      gi_wp2
      go_end0
      exact .inl ⟨⟨_, rfl⟩, .inl hj⟩
end Go.Proofs.Ythmcdlieglollaa

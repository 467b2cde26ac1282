/- Rings: the reference's right, Ascending. -/
import Derived.Test.YthmcdlieglollaaChO
import Derived.Test.YthmcdlieglollaaGenB
namespace Go.Proofs.Ythmcdlieglollaa
open Go.RowKit Go.Sort
set_option linter.unusedVariables false
set_option linter.unusedSimpArgs false
set_option linter.unusedSectionVars false
set_option maxRecDepth 20000
attribute [local go_sem] Oper.semAt_some

/-- keys, all different -/
def okB (l : List Int) : Bool := l.all keyB && decide l.Nodup
theorem okB_iff {l : List Int} : okB l = true ↔ (∀ k ∈ l, keyB k = true) ∧ l.Nodup := by simp [okB]
theorem okB_right {l : List Int} : Right l ↔ okB l = true ∧ l.length ≤ 500 :=
  ⟨fun h => ⟨okB_iff.2 ⟨h.keys, h.nodup⟩, h.le⟩, fun h => ⟨(okB_iff.1 h.1).1, (okB_iff.1 h.1).2, h.2⟩⟩
theorem idxI_le : ∀ (l : List Int) (i : Nat), i < l.length → 0 ≤ idxI l (nthI l i) ∧ idxI l (nthI l i) ≤ i
  | [], i, h => by simp at h
  | x :: l, 0, h => by simp [idxI, nthI]
  | x :: l, i + 1, h => by
    have := idxI_le l i (by simpa using h)
    rw [show nthI (x :: l) (i + 1) = nthI l i from rfl]
    simp only [idxI]
    split
    · omega
    · rw [if_neg (by omega)]; omega
theorem nodup_of_first {l : List Int} (h : ∀ i : Nat, i < l.length → (i : Int) ≤ idxI l (nthI l i)) : l.Nodup := by
  rw [List.nodup_iff_pairwise_ne, List.pairwise_iff_getElem]
  intro i j hi hj hij e
  have h1 := h j hj
  have h2 := idxI_le l i hi
  rw [nthI_get hi, e, ← nthI_get hj] at h2
  omega
theorem OwnG.lit {α : Type} {cs : α → List Value} {e : TypeId} {k : Nat} (hk : ∀ x, (cs x).length = k) {w : World} {base : Nat} (l : List α) {C : Array Value} {n : Nat} (hC : C = (l.flatMap cs).toArray) (hn : n = l.length) (hb : base ≤ w.heap.size) (hm : l.length ≤ 9223372036854775807) : OwnG cs e k (w.alloc (.cells C e)) base (.slice (some ⟨w.heap.size, 0, none⟩) n n) l := by
  subst hC hn
  have := World.ownsRow_lit (e := e) (size := k) w (l.flatMap cs).toArray l.length hb (by unfold maxLen; omega) (by simpa using flat_len hk l)
  unfold OwnG
  simpa using this
set_option maxHeartbeats 4000000 in
theorem right_any (P : Option Addr) (cap : Nat) (l : List Int) (w : World) (h : SlI w P cap l) :
    Calls Try.prog 46 #[.slice P l.length cap] w fun e w' => e = .returned (.bool (okB l)) ∧ w' = w := by
  have hlen := h.len
  go_enter Try.func46, Try.ntmps46
  go_wp2
  go_loopw [3] (fun i wr => ∃ q : Nat, q ≤ l.length ∧ i = .int .i64 q ∧ (∀ j : Nat, j < q → keyB (nthI l j) = true ∧ (j : Int) ≤ idxI l (nthI l j)) ∧ wr = w) (fun i _ => l.length - (intOf i).toNat)
  case atStart => exact ⟨0, by omega, rfl, by intro j hj; omega, rfl⟩
  case round =>
    obtain ⟨q, hk, rfl, hall, rfl⟩ := hrel
    by_cases hlt : q < l.length
    · obtain ⟨b, off, hP, g0⟩ := h.intAt q hlt
      rw [show l.getD q 0 = nthI l q from rfl] at g0
      have hK := key_any (nthI l q)
      have hRK := rkey_any (nthI l q)
      have hI := rindex_any P cap l (nthI l q) wr h
      subst hP
      have c1 : (q : Int) < l.length := by omega
      have d1 : IntKind.i64.wrap ((q : Int) + 1) = (q : Int) + 1 := IntWalk.i64_in _ ⟨by omega, by omega⟩
      cases hkq : keyB (nthI l q) with
      | false =>
        have Hn : Hid (okB l = false) := Lib.hid (by
          cases ho : okB l with
          | false => rfl
          | true => rw [(okB_iff.1 ho).1 _ (nthI_mem hlt)] at hkq; cases hkq)
        rw [hkq] at hRK
        generalize nthI l q = x at *
        clear hall hkq
        go_wp2_with (go_at_call 51; refine (hRK _).mono ?_; rintro e w1 ⟨rfl, rfl⟩)
        go_ret
        exact ⟨by rw [Hn.out]; rfl, by trivial⟩
      | true =>
        rw [hkq] at hRK
        by_cases he : idxI l (nthI l q) < q
        · have Hn : Hid (okB l = false) := Lib.hid (by
            cases ho : okB l with
            | false => rfl
            | true =>
              have := idxI_nodup (okB_iff.1 ho).2 hlt
              omega)
          generalize idxI l (nthI l q) = ix at *
          generalize nthI l q = x at *
          clear hall hkq
          go_wp2_with (first
            | (go_at_call 51; refine (hRK _).mono ?_; rintro e w1 ⟨rfl, rfl⟩)
            | (go_at_call 64; refine hI.mono ?_; rintro e w1 ⟨rfl, rfl⟩))
          go_ret
          exact ⟨by rw [Hn.out]; rfl, by trivial⟩
        · have Hy : Hid (∀ j : Nat, j < q + 1 → keyB (nthI l j) = true ∧ (j : Int) ≤ idxI l (nthI l j)) := Lib.hid (fun j hj => by
            by_cases hjk : j = q
            · subst hjk; exact ⟨hkq, by omega⟩
            · exact hall j (by omega))
          generalize idxI l (nthI l q) = ix at *
          generalize nthI l q = x at *
          clear hall hkq
          go_wp2_with (first
            | (go_at_call 51; refine (hRK _).mono ?_; rintro e w1 ⟨rfl, rfl⟩)
            | (go_at_call 64; refine hI.mono ?_; rintro e w1 ⟨rfl, rfl⟩))
          go_roundw
          case rel => exact ⟨q + 1, by omega, by go_num, Hy.out, by trivial⟩
          case measure => simp [intOf]; omega
    · obtain rfl : q = l.length := by omega
      have Hn : Hid (okB l = true) := Lib.hid (okB_iff.2 ⟨fun k hk => by
        obtain ⟨i, hi, rfl⟩ := List.getElem_of_mem hk
        rw [← nthI_get hi]
        exact (hall i hi).1, nodup_of_first fun i hi => (hall i hi).2⟩)
      clear hall
      go_wp2
      go_ret
      exact ⟨by rw [Hn.out]; rfl, by trivial⟩
theorem ins_take {l : List Int} {k : Nat} (hk : k < l.length) : l.take (k + 1) = l.take k ++ [nthI l k] := by
  rw [List.take_add_one]
  congr 1
  unfold nthI
  simp [List.getD_eq_getElem?_getD, hk]
theorem ins_sorted {out l : List Int} {k a : Nat} (hk : k < l.length) (ha : a ≤ out.length) (hs : out.Pairwise (· ≤ ·)) (hp : out.Perm (l.take k)) (hlo : ∀ j, j < a → nthI out j ≤ nthI l k) (hhi : a < out.length → nthI l k < nthI out a) :
    (out.take a ++ [nthI l k] ++ out.drop a).Pairwise (· ≤ ·) ∧ (out.take a ++ [nthI l k] ++ out.drop a).Perm (l.take (k + 1)) ∧ (out.take a ++ [nthI l k] ++ out.drop a).length = k + 1 := by
  generalize hx : nthI l k = x at *
  have hpw := List.pairwise_iff_getElem.1 hs
  have hlen := hp.length_eq
  rw [List.length_take] at hlen
  have hP : (out.take a ++ [x] ++ out.drop a).Perm (l.take (k + 1)) := by
    rw [ins_take hk, hx]
    have h1 : (out.take a ++ [x] ++ out.drop a).Perm (out.take a ++ out.drop a ++ [x]) := by
      rw [List.append_assoc, List.append_assoc]
      exact (List.perm_append_comm).append_left _
    rw [List.take_append_drop] at h1
    exact h1.trans (hp.append_right _)
  refine ⟨?_, hP, by rw [hP.length_eq, List.length_take]; omega⟩
  rw [List.append_assoc, List.pairwise_append]
  have hd : ∀ y ∈ out.drop a, x < y := by
    intro y hy
    obtain ⟨i, hi, rfl⟩ := List.getElem_of_mem hy
    rw [List.length_drop] at hi
    rw [List.getElem_drop]
    have h0 := hhi (by omega)
    rw [nthI_get (by omega)] at h0
    rcases Nat.eq_zero_or_pos i with rfl | h
    · simpa using h0
    · have := hpw a (a + i) (by omega) (by omega) (by omega)
      omega
  have ht : ∀ y ∈ out.take a, y ≤ x := by
    intro y hy
    obtain ⟨i, hi, rfl⟩ := List.getElem_of_mem hy
    rw [List.length_take] at hi
    rw [List.getElem_take]
    have := hlo i (by omega)
    rw [nthI_get (by omega)] at this
    exact this
  refine ⟨List.Pairwise.sublist (List.take_sublist _ _) hs, ?_, ?_⟩
  · rw [List.singleton_append, List.pairwise_cons]
    exact ⟨fun y hy => by have := hd y hy; omega, List.Pairwise.sublist (List.drop_sublist _ _) hs⟩
  · intro y hy z hz
    rw [List.singleton_append, List.mem_cons] at hz
    have h1 := ht y hy
    rcases hz with rfl | hz
    · exact h1
    · have := hd z hz; omega
set_option maxHeartbeats 8000000 in
theorem asc_any (P : Option Addr) (cap : Nat) (l : List Int) (w : World) (h : SlI w P cap l) (hl5 : l.length ≤ 100000) :
    Calls Try.prog 73 #[.slice P l.length cap] w fun e w' => (∃ v, e = .returned v ∧ OwnI w' w.heap.size v (sortI l)) ∧ Ext w w' := by
  have hlen := h.len
  go_enter Try.func73, Try.ntmps73
  go_wp2
  go_loopw [4, 3] (fun i v wr => ∃ (q : Nat) (out : List Int), q ≤ l.length ∧ i = .int .i64 q ∧ OwnI wr w.heap.size v out ∧ out.Pairwise (· ≤ ·) ∧ out.Perm (l.take q) ∧ out.length = q ∧ Ext w wr) (fun i _ _ => l.length - (intOf i).toNat)
  case atStart => exact ⟨0, [], by omega, rfl, OwnG.nil _ _ _ _ _, List.Pairwise.nil, by simp, rfl, Ext.refl w⟩
  case round =>
    obtain ⟨q, out, hk, rfl, hown, hpw, hperm, hol, hx⟩ := hrel
    by_cases hlt : q < l.length
    · obtain ⟨b, off, hP, g0⟩ := h.intAt q hlt
      rw [show l.getD q 0 = nthI l q from rfl] at g0
      subst hP
      have c1 : (q : Int) < l.length := by omega
      have d1 : IntKind.i64.wrap ((q : Int) + 1) = (q : Int) + 1 := IntWalk.i64_in _ ⟨by omega, by omega⟩
      have hsz := hx.size
      have HINS := fun a h1 h2 h3 => Lib.hid (ins_sorted (a := a) hlt h1 hpw hperm h2 h3)
      obtain ⟨P2, c2, rfl, hs2⟩ := hown.slG elemI (by omega)
      have hc2 : (P2 = none ∧ c2 = 0 ∧ out = []) ∨ ∃ b2, P2 = some ⟨b2, 0, none⟩ := by
        rcases hown.2 with ⟨h1, h2⟩ | ⟨g, c, cur, h1, _⟩
        · injection h1 with e1 e2 e3
          exact .inl ⟨e1, e3, List.length_eq_zero_iff.1 e2⟩
        · injection h1 with e1 e2 e3
          exact .inr ⟨g, e1⟩
      have HP2 := Lib.hid hc2
      clear hown hpw hperm hc2
      have HOL := Lib.hid hol
      clear hol
      have hol1 : out.length ≤ 100000 := by have := HOL.out; omega
      obtain ⟨x, hxe⟩ : ∃ x, nthI l q = x := ⟨_, rfl⟩
      have HXE := Lib.hid hxe
      rw [hxe] at g0
      clear hxe
      have g0 := hx.cell g0
      go_wp2
      go_loopw [5] (fun i wi => ∃ a : Nat, a ≤ out.length ∧ i = .int .i64 a ∧ (∀ j, j < a → nthI out j ≤ x) ∧ Ext wr wi) (fun i _ => out.length - (intOf i).toNat)
      case atStart => exact ⟨0, by omega, rfl, fun j hj => by omega, Ext.refl _⟩
      case round =>
        obtain ⟨a, ha, rfl, hlo, hxi⟩ := hrel
        have hs3 := hs2.ext hxi
        have hc3 := hs3.le
        have hc4 := hs3.cap
        have g1 := hxi.cell g0
        have HLO := Lib.hid hlo
        clear hlo
        have d2 : IntKind.i64.wrap ((a : Int) + 1) = (a : Int) + 1 := IntWalk.i64_in _ ⟨by omega, by omega⟩
        rcases (show (a < out.length ∧ nthI out a ≤ x) ∨ (a < out.length ∧ x < nthI out a) ∨ a = out.length from by omega) with ⟨hal, hle⟩ | hrest
        · obtain ⟨b2, off2, hP2, k0⟩ := hs3.intAt a hal
          rw [show out.getD a 0 = nthI out a from rfl] at k0
          subst hP2
          have c2 : (a : Int) < out.length := by omega
          have HY := Lib.hid (show ∀ j, j < a + 1 → nthI out j ≤ x from fun j hj => by
            by_cases hjk : j = a
            · subst hjk; exact hle
            · exact HLO.out j (by omega))
          generalize nthI out a = y at *
          go_wp2
          go_quiet (fail)
          go_wp2
          go_roundw
          case rel => exact ⟨a + 1, by omega, by go_num, HY.out, hxi.drewN _⟩
          case measure => simp [intOf]; omega
        · have HI := HINS a ha (by rw [HXE.out]; exact HLO.out) (by rw [HXE.out]; intro hh; rcases hrest with hr | hr <;> omega)
          rw [HXE.out] at HI
          clear HINS HLO
          have e1 : (out.take a).length = a := by rw [List.length_take]; omega
          have e2 : (out.drop a).length = out.length - a := List.length_drop
          have E1 := Lib.hid e1
          have E2 := Lib.hid e2
          clear e1 e2
          have hca : (a : Int) ≤ c2 := by omega
          have hcb : (a : Int) ≤ out.length := by omega
          have hxw := hx.trans hxi
          have hszw := hxw.size
          have t1 := hs3.takes a
          rcases HP2.out with ⟨rfl, rfl, rfl⟩ | ⟨b2, rfl⟩
          · obtain rfl : a = 0 := by simpa using ha
            have t2 : SlI wr none 0 (([] : List Int).drop 0) := SlG.nil _ _
            go_wp2
            try go_quiet (fail)
            go_wp2

            go_region_held3 (fun w' => w'.cell? ⟨b, off + q, none⟩ = some (.int .i64 x)) (first | go_keep | (refine Ext.cell ?_ g1; (repeat (first | exact Ext.refl _ | assumption | refine Ext.drew ?_ | refine Ext.alloc ?_ _ | refine Ext.drewN ?_ _))))
              (first
                | (refine step_app_freshG wr elemI ?_ (.tmp 29) (.tmp 32) ?_ ?_ (([] : List Int).take 0) 0 none 0 ?_ ?_ E1.out ?_ ?_ (t1.ext ?_) (fun _ => rfl) ?_ ?_ ?_ ?_
                   · rfl
                   · rfl
                   rotate_left 1
                   · rfl
                   · rfl
                   · (first | (refine alloc_at _ _ _ ?_; (simp; done)) | (refine ((Ext.refl _).alloc _).heap (alloc_at _ _ _ ?_); (simp; done)))
                   · (simp; done)
                   · (repeat (first | exact Ext.refl _ | assumption | refine Ext.drew ?_ | refine Ext.alloc ?_ _ | refine Ext.drewN ?_ _))
                   · omega
                   · omega
                   · (repeat (first | exact Ext.refl _ | assumption | refine Ext.drew ?_ | refine Ext.alloc ?_ _ | refine Ext.drewN ?_ _))
                   intro v2 W2 ho2 hx2 hk2)
                | (refine step_app_G wr elemI ?_ (.tmp 33) (.tmp 38) ?_ ?_ (([] : List Int).take 0) [x] 1 (some ⟨?_, 0, none⟩) 1 ?_ ?_ rfl ?_ ?_ (fun e => by cases e) ?_ ?_ ?_ ?_
                   · rfl
                   · rfl
                   rotate_left 2
                   · rfl
                   · rfl
                   · first | exact ho2 | exact ho2.ext ((Ext.refl _).alloc _)
                   · refine SlG.block1 (e := 3) elemI.hk x rfl ?_; first | (first | (refine alloc_at _ _ _ ?_; (simp; done)) | (refine ((Ext.refl _).alloc _).heap (alloc_at _ _ _ ?_); (simp; done))) | (refine grown_heap hk2 ?_ ?_ <;> first | (first | (refine alloc_at _ _ _ ?_; (simp; done)) | (refine ((Ext.refl _).alloc _).heap (alloc_at _ _ _ ?_); (simp; done))) | (intro e; injection e; omega))
                   · rw [E1.out]; omega
                   · rw [E1.out]; omega
                   · (repeat (first | exact Ext.refl _ | assumption | refine Ext.drew ?_ | refine Ext.alloc ?_ _ | refine Ext.drewN ?_ _))
                   intro v3 W3 ho3 hx3 hk3
                   clear hk2 hk3)
                | (refine step_app_G wr elemI ?_ (.tmp 39) (.tmp 42) ?_ ?_ (([] : List Int).take 0 ++ [x]) (([] : List Int).drop 0) (([] : List Int).length - 0) none 0 ?_ ?_ E2.out ?_ (t2.ext ?_) (fun _ => rfl) ?_ ?_ ?_ ?_
                   · rfl
                   · rfl
                   rotate_left 1
                   · rfl
                   · rfl
                   · exact ho3
                   · (repeat (first | exact Ext.refl _ | assumption | refine Ext.drew ?_ | refine Ext.alloc ?_ _ | refine Ext.drewN ?_ _))
                   · rw [List.length_append, E1.out]; simp only [List.length_cons, List.length_nil]; omega
                   · rw [List.length_append, E1.out]; simp only [List.length_cons, List.length_nil]; omega
                   · (repeat (first | exact Ext.refl _ | assumption | refine Ext.drew ?_ | refine Ext.alloc ?_ _ | refine Ext.drewN ?_ _))
                   intro v4 W4 ho4 hx4 hk4
                   clear hk4)
                | fail)
            all_goals
              try clear ho3 hx3 ho2 hx2
              go_wp2
              go_roundw
              case rel => exact ⟨q + 1, _, by omega, by go_num, ho4.down (by exact hszw), HI.out.1, HI.out.2.1, HI.out.2.2, hxw.trans (by exact hx4)⟩
              case measure => simp [intOf]; omega
          · have s1 := slice_fromG b2 0 out.length c2 a 1 ha hc3 22 (by kernel_rfl) (by kernel_rfl)
            have t2 := hs3.from elemI.hk a ha
            generalize hoff : (if c2 = a then 0 else 0 + a * 1) = off3 at *
            clear hoff
            rcases hrest with ⟨hal, hgt⟩ | hae
            · obtain ⟨b3, off4, hP3, k0⟩ := hs3.intAt a hal
              injection hP3 with hP3
              injection hP3 with hP31 hP32
              subst hP31 hP32
              rw [show out.getD a 0 = nthI out a from rfl] at k0
              simp only [Nat.zero_add] at k0
              have cc2 : (a : Int) < out.length := by omega
              generalize nthI out a = y at *
              go_wp2
              go_quiet (fail)
              go_wp2
              go_region_held3 (fun w' => w'.cell? ⟨b, off + q, none⟩ = some (.int .i64 x)) (first | go_keep | (refine Ext.cell ?_ g1; (repeat (first | exact Ext.refl _ | assumption | refine Ext.drew ?_ | refine Ext.alloc ?_ _ | refine Ext.drewN ?_ _))))
                (first
                  | (refine step_app_freshG wr elemI ?_ (.tmp 29) (.tmp 32) ?_ ?_ (out.take a) a (some ⟨b2, 0, none⟩) c2 ?_ ?_ E1.out ?_ ?_ (t1.ext ?_) (fun e => by cases e) ?_ ?_ ?_ ?_
                     · rfl
                     · rfl
                     rotate_left 1
                     · rfl
                     · rfl
                     · (first | (refine alloc_at _ _ _ ?_; (simp; done)) | (refine ((Ext.refl _).alloc _).heap (alloc_at _ _ _ ?_); (simp; done)))
                     · (simp; done)
                     · (repeat (first | exact Ext.refl _ | assumption | refine Ext.drew ?_ | refine Ext.alloc ?_ _ | refine Ext.drewN ?_ _))
                     · omega
                     · omega
                     · (repeat (first | exact Ext.refl _ | assumption | refine Ext.drew ?_ | refine Ext.alloc ?_ _ | refine Ext.drewN ?_ _))
                     intro v2 W2 ho2 hx2 hk2)
                  | (refine step_app_G wr elemI ?_ (.tmp 33) (.tmp 38) ?_ ?_ (out.take a) [x] 1 (some ⟨?_, 0, none⟩) 1 ?_ ?_ rfl ?_ ?_ (fun e => by cases e) ?_ ?_ ?_ ?_
                     · rfl
                     · rfl
                     rotate_left 2
                     · rfl
                     · rfl
                     · first | exact ho2 | exact ho2.ext ((Ext.refl _).alloc _)
                     · refine SlG.block1 (e := 3) elemI.hk x rfl ?_; first | (first | (refine alloc_at _ _ _ ?_; (simp; done)) | (refine ((Ext.refl _).alloc _).heap (alloc_at _ _ _ ?_); (simp; done))) | (refine grown_heap hk2 ?_ ?_ <;> first | (first | (refine alloc_at _ _ _ ?_; (simp; done)) | (refine ((Ext.refl _).alloc _).heap (alloc_at _ _ _ ?_); (simp; done))) | (intro e; injection e; omega))
                     · rw [E1.out]; omega
                     · rw [E1.out]; omega
                     · (repeat (first | exact Ext.refl _ | assumption | refine Ext.drew ?_ | refine Ext.alloc ?_ _ | refine Ext.drewN ?_ _))
                     intro v3 W3 ho3 hx3 hk3
                     clear hk2 hk3)
                  | (refine step_app_G wr elemI ?_ (.tmp 39) (.tmp 42) ?_ ?_ (out.take a ++ [x]) (out.drop a) (out.length - a) (some ⟨b2, off3, none⟩) (c2 - a) ?_ ?_ E2.out ?_ (t2.ext ?_) (fun e => by cases e) ?_ ?_ ?_ ?_
                     · rfl
                     · rfl
                     rotate_left 1
                     · rfl
                     · rfl
                     · exact ho3
                     · (repeat (first | exact Ext.refl _ | assumption | refine Ext.drew ?_ | refine Ext.alloc ?_ _ | refine Ext.drewN ?_ _))
                     · rw [List.length_append, E1.out]; simp only [List.length_cons, List.length_nil]; omega
                     · rw [List.length_append, E1.out]; simp only [List.length_cons, List.length_nil]; omega
                     · (repeat (first | exact Ext.refl _ | assumption | refine Ext.drew ?_ | refine Ext.alloc ?_ _ | refine Ext.drewN ?_ _))
                     intro v4 W4 ho4 hx4 hk4
                     clear hk4)
                  | fail)
              all_goals
                try clear ho3 hx3 ho2 hx2
                go_wp2
                go_roundw
                case rel => exact ⟨q + 1, _, by omega, by go_num, ho4.down (by exact hszw), HI.out.1, HI.out.2.1, HI.out.2.2, hxw.trans (by exact hx4)⟩
                case measure => simp [intOf]; omega
            · have hng : decide ((a : Int) < out.length) = false := by rw [hae]; simp
              have hng2 : decide (a < out.length) = false := by rw [hae]; simp
              clear hae
              go_wp2
              try go_quiet (fail)
              go_wp2

              go_region_held3 (fun w' => w'.cell? ⟨b, off + q, none⟩ = some (.int .i64 x)) (first | go_keep | (refine Ext.cell ?_ g1; (repeat (first | exact Ext.refl _ | assumption | refine Ext.drew ?_ | refine Ext.alloc ?_ _ | refine Ext.drewN ?_ _))))
                (first
                  | (refine step_app_freshG wr elemI ?_ (.tmp 29) (.tmp 32) ?_ ?_ (out.take a) a (some ⟨b2, 0, none⟩) c2 ?_ ?_ E1.out ?_ ?_ (t1.ext ?_) (fun e => by cases e) ?_ ?_ ?_ ?_
                     · rfl
                     · rfl
                     rotate_left 1
                     · rfl
                     · rfl
                     · (first | (refine alloc_at _ _ _ ?_; (simp; done)) | (refine ((Ext.refl _).alloc _).heap (alloc_at _ _ _ ?_); (simp; done)))
                     · (simp; done)
                     · (repeat (first | exact Ext.refl _ | assumption | refine Ext.drew ?_ | refine Ext.alloc ?_ _ | refine Ext.drewN ?_ _))
                     · omega
                     · omega
                     · (repeat (first | exact Ext.refl _ | assumption | refine Ext.drew ?_ | refine Ext.alloc ?_ _ | refine Ext.drewN ?_ _))
                     intro v2 W2 ho2 hx2 hk2)
                  | (refine step_app_G wr elemI ?_ (.tmp 33) (.tmp 38) ?_ ?_ (out.take a) [x] 1 (some ⟨?_, 0, none⟩) 1 ?_ ?_ rfl ?_ ?_ (fun e => by cases e) ?_ ?_ ?_ ?_
                     · rfl
                     · rfl
                     rotate_left 2
                     · rfl
                     · rfl
                     · first | exact ho2 | exact ho2.ext ((Ext.refl _).alloc _)
                     · refine SlG.block1 (e := 3) elemI.hk x rfl ?_; first | (first | (refine alloc_at _ _ _ ?_; (simp; done)) | (refine ((Ext.refl _).alloc _).heap (alloc_at _ _ _ ?_); (simp; done))) | (refine grown_heap hk2 ?_ ?_ <;> first | (first | (refine alloc_at _ _ _ ?_; (simp; done)) | (refine ((Ext.refl _).alloc _).heap (alloc_at _ _ _ ?_); (simp; done))) | (intro e; injection e; omega))
                     · rw [E1.out]; omega
                     · rw [E1.out]; omega
                     · (repeat (first | exact Ext.refl _ | assumption | refine Ext.drew ?_ | refine Ext.alloc ?_ _ | refine Ext.drewN ?_ _))
                     intro v3 W3 ho3 hx3 hk3
                     clear hk2 hk3)
                  | (refine step_app_G wr elemI ?_ (.tmp 39) (.tmp 42) ?_ ?_ (out.take a ++ [x]) (out.drop a) (out.length - a) (some ⟨b2, off3, none⟩) (c2 - a) ?_ ?_ E2.out ?_ (t2.ext ?_) (fun e => by cases e) ?_ ?_ ?_ ?_
                     · rfl
                     · rfl
                     rotate_left 1
                     · rfl
                     · rfl
                     · exact ho3
                     · (repeat (first | exact Ext.refl _ | assumption | refine Ext.drew ?_ | refine Ext.alloc ?_ _ | refine Ext.drewN ?_ _))
                     · rw [List.length_append, E1.out]; simp only [List.length_cons, List.length_nil]; omega
                     · rw [List.length_append, E1.out]; simp only [List.length_cons, List.length_nil]; omega
                     · (repeat (first | exact Ext.refl _ | assumption | refine Ext.drew ?_ | refine Ext.alloc ?_ _ | refine Ext.drewN ?_ _))
                     intro v4 W4 ho4 hx4 hk4
                     clear hk4)
                  | fail)
              all_goals
                try clear ho3 hx3 ho2 hx2
                go_wp2
                go_roundw
                case rel => exact ⟨q + 1, _, by omega, by go_num, ho4.down (by exact hszw), HI.out.1, HI.out.2.1, HI.out.2.2, hxw.trans (by exact hx4)⟩
                case measure => simp [intOf]; omega
    · obtain rfl : q = l.length := by omega
      rw [List.take_length] at hperm
      have hso := sortI_eq hpw hperm
      rw [← hso] at hown
      have HO := Lib.hid hown
      clear hpw hperm hso hown
      go_wp2
      go_ret
      exact ⟨⟨_, rfl, HO.out⟩, hx⟩
end Go.Proofs.Ythmcdlieglollaa

/- Rings: the law of ChainDamage. -/
import Derived.Test.YthmcdlieglollaaChU
import Derived.Test.YthmcdlieglollaaChV
namespace Go.Proofs.Ythmcdlieglollaa
open Go.RowKit Go.Sort Go.Maps
set_option linter.unusedVariables false
set_option linter.unusedSimpArgs false
set_option linter.unusedSectionVars false
set_option maxRecDepth 20000
attribute [local go_sem] Oper.semAt_some

theorem wrap_other {a b : Int} (ha : OkI a) (hb : OkI b) (h : b ≠ 0) : wrap64 (a + b) ≠ a := by
  unfold OkI at ha hb
  unfold wrap64
  omega
theorem wrap_ok (a : Int) : OkI (wrap64 a) := by
  unfold OkI wrap64
  omega
theorem mod_place (a : Int) (n : Nat) (hn : 0 < n) (h5 : n ≤ 1000) : ∃ k : Nat, k < n ∧ wrap64 ((IntKind.u64.wrap a).tmod (n : Int)) = (k : Int) := by
  have h0 : 0 ≤ IntKind.u64.wrap a := by
    simp only [IntKind.wrap, IntKind.signed, IntKind.bits]
    simp
    omega
  have h1 := Int.emod_nonneg (IntKind.u64.wrap a) (show (n : Int) ≠ 0 by omega)
  have h2 := Int.emod_lt_of_pos (IntKind.u64.wrap a) (show (0 : Int) < n by omega)
  refine ⟨((IntKind.u64.wrap a) % (n : Int)).toNat, by omega, ?_⟩
  rw [Int.tmod_eq_emod_of_nonneg h0, IntWalk.wrap64_in _ ⟨by omega, by omega⟩]
  omega
theorem set_ok {l : List Lk} (h : ∀ x ∈ l, OkK x) (i : Nat) {y : Lk} (hy : OkK y) : ∀ x ∈ l.set i y, OkK x := fun x hx => by
  rcases List.mem_or_eq_of_mem_set hx with hx | rfl
  · exact h x hx
  · exact hy
set_option maxHeartbeats 4000000 in
theorem chainDamage_any (o : Int) (P : Option Addr) (cap : Nat) (ms : List Int) (at_ field by_ : Int) (w : World) (h : SlI w P cap ms) (hP : P = none → cap = 0) (ho : OkI o) (ha : OkI at_) (hf : OkI field) (hb : OkI by_) :
    Calls Try.prog 3 #[.int .i64 o, .slice P ms.length cap, .int .i64 at_, .int .i64 field, .int .i64 by_] w fun e w' => e = .returned (.bool true) ∧ Ext w w' := by
  have hlen := h.len
  have hxl : Ext w (w.alloc (.cells #[.slice P ms.length cap] 22)) := (Ext.refl w).alloc _
  have hL := light_one w.heap.size P ms.length cap (w.alloc (.cells #[.slice P ms.length cap] 22)) hlen ((World.cell?_alloc_mark _ _ _ _ 0).trans rfl)
  by_cases hl : ms.length ≤ 120
  · rw [decide_eq_true hl] at hL
    by_cases hby : by_ = 0
    · subst hby
      go_enter Try.func3, Try.ntmps3
      go_wp2_with (first
        | (go_at_call 9; refine hL.mono ?_; rintro e w1 ⟨rfl, rfl⟩)
        | (go_at_call 10; refine (awake_any _).mono ?_; rintro e w5 ⟨rfl, hx5⟩))
      go_ret
      exact ⟨rfl, hxl.trans hx5⟩
    have hby' : (by_ == 0) = false := by simpa using hby
    have hm2 := fun W hW => rmake_any P cap o ms W hW hP (by omega)
    rcases make_cases o ms with ⟨_, he, hr⟩ | ⟨_, h5, _⟩ | ⟨_, _, he, hr, hrr⟩
    · rw [he, hr] at hm2
      clear he hr hby
      go_enter Try.func3, Try.ntmps3
      go_wp2_with (first
        | (go_at_call 9; refine hL.mono ?_; rintro e w1 ⟨rfl, rfl⟩; have h1 := h.ext hxl)
        | (go_at_call 11; refine (hm2 _ h1).mono ?_; rintro e w3 ⟨⟨v3, rfl, P3, c3, rfl, s3, _⟩, hx3⟩)
        | (go_at_call 10; refine (awake_any _).mono ?_; rintro e w5 ⟨rfl, hx5⟩))
      go_ret
      exact ⟨rfl, hxl.trans (hx3.trans hx5)⟩
    · omega
    · rw [he, hr] at hm2
      obtain ⟨k, hk, hkE⟩ := mod_place at_ (ms.length + 1) (by omega) (by omega)
      have ok := built_okK hrr
      have hdm := fun x hx1 hx2 => damaged hrr hk x hx1 hx2
      have hLn := built_len o ms
      have hLp : ms.length + 1 ≤ 121 := by omega
      generalize ms.length + 1 = N at *
      generalize builtF o ms = L at *
      clear he hr hrr
      have hkL : k < L.length := by omega
      have HX := Lib.hid (nthL_some hkL)
      have okx : OkK (nthL L k) := okK_nth ok k
      have c1 : (k : Int) < N := by omega
      have hwo1 := wrap_other okx.2.1 hb hby
      have hwo2 := wrap_other okx.2.2.1 hb hby
      have hwo3 := wrap_other okx.2.2.2 hb hby
      have HLn := Lib.hid hLn
      clear hby hLn
      by_cases hz0 : (IntKind.u64.wrap field).tmod 3 = 0
      · have hV0 : validB (L.set k ((nthL L k).1, wrap64 ((nthL L k).2.1 + by_), (nthL L k).2.2.1, (nthL L k).2.2.2)) = false := hdm ((nthL L k).1, wrap64 ((nthL L k).2.1 + by_), (nthL L k).2.2.1, (nthL L k).2.2.2) rfl (.inl hwo1)
        have ok' := set_ok ok k (y := ((nthL L k).1, wrap64 ((nthL L k).2.1 + by_), (nthL L k).2.2.1, (nthL L k).2.2.2)) ⟨okx.1, wrap_ok _, okx.2.2.1, okx.2.2.2⟩
        have hl' : (L.set k ((nthL L k).1, wrap64 ((nthL L k).2.1 + by_), (nthL L k).2.2.1, (nthL L k).2.2.2)).length = N := by rw [List.length_set]; exact HLn.out
        generalize hy : L.set k ((nthL L k).1, wrap64 ((nthL L k).2.1 + by_), (nthL L k).2.2.1, (nthL L k).2.2.2) = L' at *
        have HLS := Lib.hid hy
        have HL' := Lib.hid hl'
        clear hy hl' hdm hwo1 hwo2 hwo3
        have hW1 := fun P c W hW => wrong_any P c L' W hW ok'
        have hW2 := fun P c W hW => rwrong_any P c L' W hW ok'
        have hV1 := fun P c W hW => valid_any P c L' W hW ok'
        rw [hV0] at hV1
        clear hV0
        generalize wrongF L' = r at *
        obtain ⟨r1, r2, r3⟩ := r
        simp only [wrongV] at hW1 hW2
        skip
        go_enter Try.func3, Try.ntmps3
        go_wp2_with (first
          | (go_at_call 9; refine hL.mono ?_; rintro e w1 ⟨rfl, rfl⟩; have h1 := h.ext hxl)
          | (go_at_call 11; refine (hm2 _ h1).mono ?_; rintro e w3 ⟨⟨v3, rfl, P3, c3, rfl, s3, q3⟩, hx3⟩; rw [HLn.out])
          | (at_builtin; refine wpList_app_G _ elemL rfl _ _ rfl (base := w3.heap.size) rfl (OwnG.lit0 (Nat.le_refl _)) (m := L) ?d1 (s3.ext ((Ext.refl _).alloc _)) q3 ?d2 ?d3 ?d4 ?_; rotate_right 1; intro v7 w7 ho7 hx7; rw [List.nil_append] at ho7; obtain ⟨g7, c7, rfl, hg7, hl7, _, hc7⟩ := ho7.tight (by omega); have hcell := ho7.cell elemL.hk rfl k _ HX.out 1 _ rfl; have hfz := ho7.frozen rfl (k * 4 + 1); have hst := ho7.setCell elemL.hk rfl k 1 (nthL L k) ((nthL L k).1, wrap64 ((nthL L k).2.1 + by_), (nthL L k).2.2.1, (nthL L k).2.2.2) (.int .i64 (wrap64 ((nthL L k).2.1 + by_))) HX.out rfl (by omega); rw [HLS.out] at hst; obtain ⟨Pq, cq, eq7, sq⟩ := hst.slG elemL (by rw [HL'.out]; omega); injection eq7 with e1 _ e3; subst e1 e3; have hw1 := hW1 _ _ _ sq; rw [HL'.out] at hw1; clear hst ho7; rw [HLn.out])
          | (go_at_call 12; refine hw1.mono ?_; rintro e w8 ⟨rfl, hx8⟩; have hw2 := hW2 _ _ _ (sq.ext hx8); rw [HL'.out] at hw2)
          | (go_at_call 13; refine hw2.mono ?_; rintro e w9 ⟨rfl, hx9⟩; have hw3 := hV1 _ _ _ (sq.ext (hx8.trans hx9)); rw [HL'.out] at hw3)
          | (go_at_call 14; refine hw3.mono ?_; rintro e wA ⟨rfl, hxA⟩)
          | (go_at_call 10; refine (awake_any _).mono ?_; rintro e wB ⟨rfl, hxB⟩))
        case d1 => rw [HLn.out]; rfl
        case d2 => rw [HLn.out]; simp; omega
        case d3 => rw [HLn.out]; simp; omega
        case d4 => simp
        go_ret
        exact ⟨rfl, hxl.trans (hx3.trans (((below_ext ((Ext.refl w3).alloc _) hx7 (Nat.le_refl _)).setCell hg7 _).trans (hx8.trans (hx9.trans (hxA.trans hxB)))))⟩
      · by_cases hz1 : (IntKind.u64.wrap field).tmod 3 = 1
        · have hz0 : ((1 : Int) == 0) = false := by decide
          have hV0 : validB (L.set k ((nthL L k).1, (nthL L k).2.1, wrap64 ((nthL L k).2.2.1 + by_), (nthL L k).2.2.2)) = false := hdm ((nthL L k).1, (nthL L k).2.1, wrap64 ((nthL L k).2.2.1 + by_), (nthL L k).2.2.2) rfl (.inr (.inl hwo2))
          have ok' := set_ok ok k (y := ((nthL L k).1, (nthL L k).2.1, wrap64 ((nthL L k).2.2.1 + by_), (nthL L k).2.2.2)) ⟨okx.1, okx.2.1, wrap_ok _, okx.2.2.2⟩
          have hl' : (L.set k ((nthL L k).1, (nthL L k).2.1, wrap64 ((nthL L k).2.2.1 + by_), (nthL L k).2.2.2)).length = N := by rw [List.length_set]; exact HLn.out
          generalize hy : L.set k ((nthL L k).1, (nthL L k).2.1, wrap64 ((nthL L k).2.2.1 + by_), (nthL L k).2.2.2) = L' at *
          have HLS := Lib.hid hy
          have HL' := Lib.hid hl'
          clear hy hl' hdm hwo1 hwo2 hwo3
          have hW1 := fun P c W hW => wrong_any P c L' W hW ok'
          have hW2 := fun P c W hW => rwrong_any P c L' W hW ok'
          have hV1 := fun P c W hW => valid_any P c L' W hW ok'
          rw [hV0] at hV1
          clear hV0
          generalize wrongF L' = r at *
          obtain ⟨r1, r2, r3⟩ := r
          simp only [wrongV] at hW1 hW2
          skip
          go_enter Try.func3, Try.ntmps3
          go_wp2_with (first
            | (go_at_call 9; refine hL.mono ?_; rintro e w1 ⟨rfl, rfl⟩; have h1 := h.ext hxl)
            | (go_at_call 11; refine (hm2 _ h1).mono ?_; rintro e w3 ⟨⟨v3, rfl, P3, c3, rfl, s3, q3⟩, hx3⟩; rw [HLn.out])
            | (at_builtin; refine wpList_app_G _ elemL rfl _ _ rfl (base := w3.heap.size) rfl (OwnG.lit0 (Nat.le_refl _)) (m := L) ?d1 (s3.ext ((Ext.refl _).alloc _)) q3 ?d2 ?d3 ?d4 ?_; rotate_right 1; intro v7 w7 ho7 hx7; rw [List.nil_append] at ho7; obtain ⟨g7, c7, rfl, hg7, hl7, _, hc7⟩ := ho7.tight (by omega); have hcell := ho7.cell elemL.hk rfl k _ HX.out 2 _ rfl; have hfz := ho7.frozen rfl (k * 4 + 2); have hst := ho7.setCell elemL.hk rfl k 2 (nthL L k) ((nthL L k).1, (nthL L k).2.1, wrap64 ((nthL L k).2.2.1 + by_), (nthL L k).2.2.2) (.int .i64 (wrap64 ((nthL L k).2.2.1 + by_))) HX.out rfl (by omega); rw [HLS.out] at hst; obtain ⟨Pq, cq, eq7, sq⟩ := hst.slG elemL (by rw [HL'.out]; omega); injection eq7 with e1 _ e3; subst e1 e3; have hw1 := hW1 _ _ _ sq; rw [HL'.out] at hw1; clear hst ho7; rw [HLn.out])
            | (go_at_call 12; refine hw1.mono ?_; rintro e w8 ⟨rfl, hx8⟩; have hw2 := hW2 _ _ _ (sq.ext hx8); rw [HL'.out] at hw2)
            | (go_at_call 13; refine hw2.mono ?_; rintro e w9 ⟨rfl, hx9⟩; have hw3 := hV1 _ _ _ (sq.ext (hx8.trans hx9)); rw [HL'.out] at hw3)
            | (go_at_call 14; refine hw3.mono ?_; rintro e wA ⟨rfl, hxA⟩)
            | (go_at_call 10; refine (awake_any _).mono ?_; rintro e wB ⟨rfl, hxB⟩))
          case d1 => rw [HLn.out]; rfl
          case d2 => rw [HLn.out]; simp; omega
          case d3 => rw [HLn.out]; simp; omega
          case d4 => simp
          go_ret
          exact ⟨rfl, hxl.trans (hx3.trans (((below_ext ((Ext.refl w3).alloc _) hx7 (Nat.le_refl _)).setCell hg7 _).trans (hx8.trans (hx9.trans (hxA.trans hxB)))))⟩
        · have hV0 : validB (L.set k ((nthL L k).1, (nthL L k).2.1, (nthL L k).2.2.1, wrap64 ((nthL L k).2.2.2 + by_))) = false := hdm ((nthL L k).1, (nthL L k).2.1, (nthL L k).2.2.1, wrap64 ((nthL L k).2.2.2 + by_)) rfl (.inr (.inr hwo3))
          have ok' := set_ok ok k (y := ((nthL L k).1, (nthL L k).2.1, (nthL L k).2.2.1, wrap64 ((nthL L k).2.2.2 + by_))) ⟨okx.1, okx.2.1, okx.2.2.1, wrap_ok _⟩
          have hl' : (L.set k ((nthL L k).1, (nthL L k).2.1, (nthL L k).2.2.1, wrap64 ((nthL L k).2.2.2 + by_))).length = N := by rw [List.length_set]; exact HLn.out
          generalize hy : L.set k ((nthL L k).1, (nthL L k).2.1, (nthL L k).2.2.1, wrap64 ((nthL L k).2.2.2 + by_)) = L' at *
          have HLS := Lib.hid hy
          have HL' := Lib.hid hl'
          clear hy hl' hdm hwo1 hwo2 hwo3
          have hW1 := fun P c W hW => wrong_any P c L' W hW ok'
          have hW2 := fun P c W hW => rwrong_any P c L' W hW ok'
          have hV1 := fun P c W hW => valid_any P c L' W hW ok'
          rw [hV0] at hV1
          clear hV0
          generalize wrongF L' = r at *
          obtain ⟨r1, r2, r3⟩ := r
          simp only [wrongV] at hW1 hW2
          have hz0' : ((IntKind.u64.wrap field).tmod 3 == 0) = false := by simpa using hz0
          have hz1' : ((IntKind.u64.wrap field).tmod 3 == 1) = false := by simpa using hz1
          clear hz0 hz1
          go_enter Try.func3, Try.ntmps3
          go_wp2_with (first
            | (go_at_call 9; refine hL.mono ?_; rintro e w1 ⟨rfl, rfl⟩; have h1 := h.ext hxl)
            | (go_at_call 11; refine (hm2 _ h1).mono ?_; rintro e w3 ⟨⟨v3, rfl, P3, c3, rfl, s3, q3⟩, hx3⟩; rw [HLn.out])
            | (at_builtin; refine wpList_app_G _ elemL rfl _ _ rfl (base := w3.heap.size) rfl (OwnG.lit0 (Nat.le_refl _)) (m := L) ?d1 (s3.ext ((Ext.refl _).alloc _)) q3 ?d2 ?d3 ?d4 ?_; rotate_right 1; intro v7 w7 ho7 hx7; rw [List.nil_append] at ho7; obtain ⟨g7, c7, rfl, hg7, hl7, _, hc7⟩ := ho7.tight (by omega); have hcell := ho7.cell elemL.hk rfl k _ HX.out 3 _ rfl; have hfz := ho7.frozen rfl (k * 4 + 3); have hst := ho7.setCell elemL.hk rfl k 3 (nthL L k) ((nthL L k).1, (nthL L k).2.1, (nthL L k).2.2.1, wrap64 ((nthL L k).2.2.2 + by_)) (.int .i64 (wrap64 ((nthL L k).2.2.2 + by_))) HX.out rfl (by omega); rw [HLS.out] at hst; obtain ⟨Pq, cq, eq7, sq⟩ := hst.slG elemL (by rw [HL'.out]; omega); injection eq7 with e1 _ e3; subst e1 e3; have hw1 := hW1 _ _ _ sq; rw [HL'.out] at hw1; clear hst ho7; rw [HLn.out])
            | (go_at_call 12; refine hw1.mono ?_; rintro e w8 ⟨rfl, hx8⟩; have hw2 := hW2 _ _ _ (sq.ext hx8); rw [HL'.out] at hw2)
            | (go_at_call 13; refine hw2.mono ?_; rintro e w9 ⟨rfl, hx9⟩; have hw3 := hV1 _ _ _ (sq.ext (hx8.trans hx9)); rw [HL'.out] at hw3)
            | (go_at_call 14; refine hw3.mono ?_; rintro e wA ⟨rfl, hxA⟩)
            | (go_at_call 10; refine (awake_any _).mono ?_; rintro e wB ⟨rfl, hxB⟩))
          case d1 => rw [HLn.out]; rfl
          case d2 => rw [HLn.out]; simp; omega
          case d3 => rw [HLn.out]; simp; omega
          case d4 => simp
          go_ret
          exact ⟨rfl, hxl.trans (hx3.trans (((below_ext ((Ext.refl w3).alloc _) hx7 (Nat.le_refl _)).setCell hg7 _).trans (hx8.trans (hx9.trans (hxA.trans hxB)))))⟩
  · rw [decide_eq_false hl] at hL
    go_enter Try.func3, Try.ntmps3
    go_wp2_with (first
      | (go_at_call 9; refine hL.mono ?_; rintro e w1 ⟨rfl, rfl⟩)
      | (go_at_call 10; refine (awake_any _).mono ?_; rintro e w2 ⟨rfl, hx2⟩))
    go_ret
    exact ⟨rfl, hxl.trans hx2⟩
end Go.Proofs.Ythmcdlieglollaa

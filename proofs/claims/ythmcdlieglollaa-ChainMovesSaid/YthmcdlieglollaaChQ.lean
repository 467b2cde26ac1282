/- Rings: the reference's Built, Make. -/
import Derived.Test.YthmcdlieglollaaChP
namespace Go.Proofs.Ythmcdlieglollaa
open Go.RowKit Go.Sort
set_option linter.unusedVariables false
set_option linter.unusedSimpArgs false
set_option linter.unusedSectionVars false
set_option maxRecDepth 20000
attribute [local go_sem] Oper.semAt_some

abbrev OwnL (w : World) (base : Nat) (v : Value) (l : List Lk) : Prop := OwnG Lk.cells 31 4 w base v l
theorem OwnI.some {w : World} {base : Nat} {v : Value} {l : List Int} (h : OwnI w base v l) (hl : 0 < l.length) (h5 : l.length ≤ 100000) : ∃ g c, v = .slice (some ⟨g, 0, none⟩) l.length c ∧ base ≤ g ∧ g < w.heap.size ∧ SlI w (some ⟨g, 0, none⟩) c l := by
  obtain ⟨P, c, e, hs⟩ := h.slG elemI (by omega)
  obtain ⟨g, c', e', h1, h2, _⟩ := h.tight hl
  rw [e] at e'
  injection e' with e1 e2 e3
  subst e1 e3
  exact ⟨g, c, e, h1, h2, hs⟩
theorem tmod_at {a b : Nat} (hb : 0 < b) : ((a : Int)).tmod (b : Int) = ((a % b : Nat) : Int) := by rw [Int.tmod_eq_emod_of_nonneg (by omega)]; omega
theorem one_block {w : World} {n : Nat} (hn : w.heap.size = n) (x : Int) : SlI (w.alloc (.cells #[.int .i64 x] 3)) (some ⟨n, 0, none⟩) 1 [x] := SlG.one elemI.hk x rfl hn.symm
set_option maxHeartbeats 8000000 in
theorem built_any (P : Option Addr) (cap : Nat) (o : Int) (ms : List Int) (w : World) (h : SlI w P cap ms) (hP : P = none → cap = 0) (hl5 : ms.length ≤ 99999) :
    Calls Try.prog 47 #[.int .i64 o, .slice P ms.length cap] w fun e w' => (∃ v, e = .returned v ∧ OwnL w' w.heap.size v (builtF o ms)) ∧ Ext w w' := by
  have hlen := h.len
  have hA := fun (g c : Nat) W (hs : SlI W (some ⟨g, 0, none⟩) c (o :: ms)) => asc_any (some ⟨g, 0, none⟩) c (o :: ms) W hs (by simp; omega)
  obtain ⟨N, hN⟩ : ∃ N, N = ms.length + 1 := ⟨_, rfl⟩
  have hAl : (o :: ms).length = N := by rw [hN]; rfl
  have hN1 : ms.length + 1 ≤ N := by omega
  have hN2 : N ≤ ms.length + 1 := by omega
  clear hN
  rw [hAl] at hA
  go_enter Try.func47, Try.ntmps47
  go_wp2_with (first
    | (at_builtin; refine wpList_app_G _ elemI rfl _ _ rfl (base := w.heap.size) rfl (OwnG.lit elemI.hk [o] rfl rfl (Nat.le_refl _) (by simp)) (m := ms) rfl (h.ext ((Ext.refl _).alloc _)) hP ?c3 ?c4 ?c5 ?_))
  all_goals first
    | (simp; omega; done)
    | (simp; done)
    | skip
  intro v5 W1 hv5 hb5
  have hx1 : Ext w W1 := below_ext ((Ext.refl _).alloc _) hb5 (Nat.le_refl _)
  replace hv5 : OwnI W1 w.heap.size v5 (o :: ms) := hv5
  obtain ⟨g5, c5, rfl, hg5, hg5', hs5⟩ := OwnI.some hv5 (by simp) (by simp; omega)
  rw [hAl]
  go_wp2_with (go_at_call 73; refine (hA _ _ _ hs5).mono ?_; rintro e W2 ⟨⟨v6, rfl, hv6⟩, hx2⟩)
  obtain ⟨g6, c6, rfl, hg6, hg6', hs6⟩ := OwnI.some hv6 (by rw [sortI_len]; simp) (by rw [sortI_len]; simp; omega)
  have hs5 := hs5.ext hx2
  have hl6 : (sortI (o :: ms)).length = N := by rw [sortI_len, hAl]
  have hI := fun (k : Int) W (hs : SlI W (some ⟨g5, 0, none⟩) c5 (o :: ms)) => rindex_any (some ⟨g5, 0, none⟩) c5 (o :: ms) k W hs
  rw [hAl] at hI
  have HL6 := Lib.hid hl6
  rw [hl6]
  have hx12 := hx1.trans hx2
  have HP12 := Lib.hid hx12.size
  clear hv5 hv6 hA
  go_loopw [8, 7] (fun i v wr => ∃ q : Nat, q ≤ N ∧ i = .int .i64 q ∧ OwnL wr W2.heap.size v ((builtF o ms).take q) ∧ Ext W2 wr) (fun i _ _ => N - (intOf i).toNat)
  case atStart => exact ⟨0, by omega, rfl, OwnG.nil _ _ _ _ _, Ext.refl _⟩
  case round =>
    obtain ⟨q, hk, rfl, hown, hx⟩ := hrel
    by_cases hlt : q < N
    · have hlt6 : q < (sortI (o :: ms)).length := by rw [HL6.out]; exact hlt
      obtain ⟨b, off, hPP, k0⟩ := hs6.intAt q hlt6
      injection hPP with hPP
      injection hPP with hP1 hP2
      subst hP1 hP2
      rw [show (sortI (o :: ms)).getD q 0 = nthI (sortI (o :: ms)) q from rfl] at k0
      simp only [Nat.zero_add] at k0
      have hmem : nthI (sortI (o :: ms)) q ∈ o :: ms := sortI_mem.1 (nthI_mem hlt6)
      have hge := idxI_mem.2 hmem
      have hle := (idxI_ge (o :: ms) (nthI (sortI (o :: ms)) q)).2
      have HT := Lib.hid (show (builtF o ms).take (q + 1) = (builtF o ms).take q ++ [lkF (o :: ms) o (nthI (sortI (o :: ms)) q)] from by
        have hq : q < (builtF o ms).length := by rw [built_len]; omega
        rw [List.take_add_one, List.getElem?_eq_getElem hq]
        congr 1
        rw [← nthL_get hq, built_at (by omega)]
        rfl)
      have hIq := fun W hs => hI (nthI (sortI (o :: ms)) q) W hs
      obtain ⟨kk, hkk⟩ : ∃ kk, nthI (sortI (o :: ms)) q = kk := ⟨_, rfl⟩
      rw [hkk] at k0 hge hle hIq
      have HK := Lib.hid hkk
      obtain ⟨j, hj⟩ : ∃ j : Nat, idxI (o :: ms) kk = j := ⟨(idxI (o :: ms) kk).toNat, by omega⟩
      have hjl : j < N := by rw [hj, hAl] at hle; omega
      have HX := Lib.hid (show lkF (o :: ms) o kk = (kk, nthI (o :: ms) ((j + 1) % (N)), nthI (o :: ms) ((j + N - 1) % (N)), o) from by
        unfold lkF
        rw [hj, hAl, Int.toNat_natCast, show j + (N) - 1 = j + ms.length from by omega])
      simp only [hj] at hIq
      clear hmem hge hle hj hkk hlt6
      have m1 : (j + 1) % (N) < N := Nat.mod_lt _ (by omega)
      have m2 : (j + N - 1) % (N) < N := Nat.mod_lt _ (by omega)
      obtain ⟨b1, of1, hQ1, k1⟩ := hs5.intAt _ (show (j + 1) % (N) < (o :: ms).length from by rw [hAl]; exact m1)
      obtain ⟨b2, of2, hQ2, k2⟩ := hs5.intAt _ (show (j + N - 1) % (N) < (o :: ms).length from by rw [hAl]; exact m2)
      injection hQ1 with hQ1
      injection hQ1 with hQ11 hQ12
      subst hQ11 hQ12
      injection hQ2 with hQ2
      injection hQ2 with hQ21 hQ22
      subst hQ21 hQ22
      simp only [Nat.zero_add] at k1 k2
      rw [show (o :: ms).getD ((j + 1) % (N)) 0 = nthI (o :: ms) ((j + 1) % (N)) from rfl] at k1
      rw [show (o :: ms).getD ((j + N - 1) % (N)) 0 = nthI (o :: ms) ((j + N - 1) % (N)) from rfl] at k2
      have d1 : IntKind.i64.wrap ((q : Int) + 1) = (q : Int) + 1 := IntWalk.i64_in _ ⟨by omega, by omega⟩
      have e1 : IntKind.i64.wrap ((j : Int) + 1) = (j : Int) + 1 := IntWalk.i64_in _ ⟨by omega, by omega⟩
      have e3 : IntKind.i64.wrap ((j : Int) + (N : Int)) = (j : Int) + (N : Int) := IntWalk.i64_in _ ⟨by omega, by omega⟩
      have e4 : IntKind.i64.wrap ((j : Int) + (N : Int) - 1) = (j : Int) + (N : Int) - 1 := IntWalk.i64_in _ ⟨by omega, by omega⟩
      have cq : (q : Int) < N := by omega
      have cm1 : (((j + 1) % N : Nat) : Int) < N := Int.ofNat_lt.2 m1
      have cm2 : (((j + N - 1) % N : Nat) : Int) < N := Int.ofNat_lt.2 m2
      have HO := Lib.hid hown
      have HQ := Lib.hid hk
      have hsz := hx.size
      have HTL := Lib.hid (show (((builtF o ms).take q).length + 1) * 32 ≤ 140737488355328 ∧ ((builtF o ms).take q).length + 1 ≤ 9223372036854775807 from by rw [List.length_take, built_len]; omega)
      have n0 : ((N : Int) == 0) = false := by simp; omega
      have n1 : ¬ ((N : Int) = 0) := by omega
      have n2 : ¬ (N = 0) := by omega
      have HJ := Lib.hid (show ((j + N - 1 : Nat) : Int) = (j : Int) + (N : Int) - 1 by omega)
      have HJ1 := Lib.hid (show (j : Int) + 1 = ((j + 1 : Nat) : Int) by omega)
      have HN0 := Lib.hid (show 0 < N by omega)
      clear hown hk
      have e2 : ((j : Int) + 1).tmod (N : Int) = (((j + 1) % N : Nat) : Int) := by rw [HJ1.out]; exact tmod_at HN0.out
      have e5 : ((j : Int) + (N : Int) - 1).tmod (N : Int) = (((j + N - 1) % N : Nat) : Int) := by rw [← HJ.out]; exact tmod_at HN0.out
      generalize (j + 1) % N = p1 at *
      generalize (j + N - 1) % N = p2 at *
      generalize nthI (o :: ms) p1 = nx at *
      generalize nthI (o :: ms) p2 = pr at *
      have HC := Lib.hid (And.intro k0 (And.intro k1 k2))
      have k0 := hx.cell k0
      have k1 := hx.cell k1
      have k2 := hx.cell k2
      have hs5' := hs5.ext hx
      go_wp2_with (go_at_call 64; refine (hIq _ hs5').mono ?_; rintro e w3 ⟨rfl, rfl⟩)
      go_region_held3 (fun w' => w'.cell? ⟨g6, q, none⟩ = some (.int .i64 kk) ∧ w'.cell? ⟨g5, p1, none⟩ = some (.int .i64 nx) ∧ w'.cell? ⟨g5, p2, none⟩ = some (.int .i64 pr)) (first | go_keep | exact ⟨k0, k1, k2⟩ | exact ⟨hx3.cell HC.out.1, hx3.cell HC.out.2.1, hx3.cell HC.out.2.2⟩)
        (first
          | (refine step_app_G W2 elemL ?_ (.tmp 28) (.tmp 54) ?_ ?_ ((builtF o ms).take q) [(kk, nx, pr, o)] 1 (some ⟨?_, 0, none⟩) 1 ?_ ?_ rfl ?_ ?_ (fun e => by cases e) ?_ ?_ ?_ ?_
             · rfl
             · rfl
             rotate_left 2
             · rfl
             · rfl
             · (refine HO.out.ext ?_; (repeat (first | exact Ext.refl _ | assumption | refine Ext.drew ?_ | refine Ext.alloc ?_ _ | refine Ext.drewN ?_ _)))
             · refine SlG.block1 (e := 31) elemL.hk _ rfl ?_; (first | (refine alloc_at _ _ _ ?_; (simp; done)) | (refine ((Ext.refl _).alloc _).heap (alloc_at _ _ _ ?_); (simp; done)))
             · exact HTL.out.1
             · exact HTL.out.2
             · (repeat (first | exact Ext.refl _ | assumption | refine Ext.drew ?_ | refine Ext.alloc ?_ _ | refine Ext.drewN ?_ _))
             intro v3 W3 ho3 hx3 hk3
             clear hk3)
          | fail)
      all_goals
        clear e1 e2 e3 e4 e5
        go_wp2
        go_roundw
        case rel => exact ⟨q + 1, by omega, by go_num, by rw [HT.out, HK.out, HX.out]; exact ho3, by exact hx3⟩
        case measure => simp [intOf]; omega
    · obtain rfl : q = N := by omega
      rw [List.take_of_length_le (by rw [built_len]; omega)] at hown
      go_wp2
      go_ret
      exact ⟨⟨_, rfl, hown.down (by exact HP12.out)⟩, hx12.trans hx⟩
/-- what Make tells of an owner and members -/
def makeE (o : Int) (ms : List Int) : Int := if okB (o :: ms) = true then (if ms.length < 500 then 0 else 4) else 1
def makeL (o : Int) (ms : List Int) : List Lk := if makeE o ms = 0 then builtF o ms else []
theorem make_cases (o : Int) (ms : List Int) : (okB (o :: ms) = false ∧ makeE o ms = 1 ∧ makeL o ms = []) ∨ (okB (o :: ms) = true ∧ 500 ≤ ms.length ∧ makeE o ms = 4 ∧ makeL o ms = []) ∨ (okB (o :: ms) = true ∧ ms.length < 500 ∧ makeE o ms = 0 ∧ makeL o ms = builtF o ms ∧ Right (o :: ms)) := by
  cases h : okB (o :: ms) with
  | false => exact .inl ⟨rfl, by simp [makeE, h], by simp [makeL, makeE, h]⟩
  | true =>
    by_cases h5 : ms.length < 500
    · exact .inr (.inr ⟨rfl, h5, by simp [makeE, h, h5], by simp [makeL, makeE, h, h5], okB_right.2 ⟨h, by simp; omega⟩⟩)
    · exact .inr (.inl ⟨rfl, by omega, by simp [makeE, h, h5], by simp [makeL, makeE, h, h5]⟩)
/-- the reference's Make -/
theorem rmake_any (P : Option Addr) (cap : Nat) (o : Int) (ms : List Int) (w : World) (h : SlI w P cap ms) (hP : P = none → cap = 0) (hl5 : ms.length ≤ 99999) :
    Calls Try.prog 11 #[.int .i64 o, .slice P ms.length cap] w fun e w' => (∃ v, e = .returned (.tuple #[v, .int .i64 (makeE o ms)]) ∧ ResL w' v (makeL o ms)) ∧ Ext w w' := by
  have hlen := h.len
  have hR := fun (g c : Nat) W (hs : SlI W (some ⟨g, 0, none⟩) c (o :: ms)) => right_any (some ⟨g, 0, none⟩) c (o :: ms) W hs
  have hB := fun W (hx : Ext w W) => built_any P cap o ms W (h.ext hx) hP hl5
  have hAl : (o :: ms).length = ms.length + 1 := rfl
  rw [hAl] at hR
  have cases' := make_cases o ms
  have HBL := Lib.hid (built_len o ms)
  generalize makeE o ms = er at *
  generalize makeL o ms = res at *
  go_enter Try.func11, Try.ntmps11
  go_wp2_with (first
    | (at_builtin; refine wpList_app_G _ elemI rfl _ _ rfl (base := w.heap.size) rfl (OwnG.lit elemI.hk [o] rfl rfl (Nat.le_refl _) (by simp)) (m := ms) rfl (h.ext ((Ext.refl _).alloc _)) hP ?c3 ?c4 ?c5 ?_))
  all_goals first
    | (simp; omega; done)
    | (simp; done)
    | skip
  intro v5 W1 hv5 hb5
  have hx1 : Ext w W1 := below_ext ((Ext.refl _).alloc _) hb5 (Nat.le_refl _)
  replace hv5 : OwnI W1 w.heap.size v5 (o :: ms) := hv5
  obtain ⟨g5, c5, rfl, hg5, hg5', hs5⟩ := OwnI.some hv5 (by simp) (by simp; omega)
  rw [hAl]
  clear hv5 hb5
  have hR5 := hR _ _ _ hs5
  rcases cases' with ⟨ho, he, hr⟩ | ⟨ho, h5, he, hr⟩ | ⟨ho, h5, he, hr, _⟩
  · subst he hr
    rw [ho] at hR5
    clear ho
    go_wp2_with (go_at_call 46; refine hR5.mono ?_; rintro e W2 ⟨rfl, rfl⟩)
    go_ret2
    exact ⟨⟨_, rfl, ResG.nil _ _⟩, hx1⟩
  · subst he hr
    rw [ho] at hR5
    clear ho
    have c1 : (500 : Int) < (ms.length : Int) + 1 := by omega
    have c2 : decide (500 < ms.length + 1) = true := by simp; omega
    have c3 : decide ((500 : Int) < (ms.length : Int) + 1) = true := by simp; omega
    go_wp2_with (go_at_call 46; refine hR5.mono ?_; rintro e W2 ⟨rfl, rfl⟩)
    go_ret2
    exact ⟨⟨_, rfl, ResG.nil _ _⟩, hx1⟩
  · have HR := Lib.hid hr
    subst he
    rw [ho] at hR5
    clear ho hr
    have c1 : ¬ (500 : Int) < (ms.length : Int) + 1 := by omega
    have c2 : decide (500 < ms.length + 1) = false := by simp; omega
    have c3 : decide ((500 : Int) < (ms.length : Int) + 1) = false := by simp; omega
    go_wp2_with (first
      | (go_at_call 46; refine hR5.mono ?_; rintro e W2 ⟨rfl, rfl⟩)
      | (go_at_call 47; refine (hB _ hx1).mono ?_; rintro e W3 ⟨⟨v, rfl, ho3⟩, hx3⟩))
    go_ret2
    exact ⟨⟨_, rfl, by rw [HR.out]; exact ho3.res elemL (by rw [HBL.out]; omega)⟩, hx1.trans hx3⟩
end Go.Proofs.Ythmcdlieglollaa

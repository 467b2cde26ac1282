/- Rings: Changed of the program. -/
import Derived.Test.YthmcdlieglollaaChM7
import Derived.StillTailTactics
namespace Go.Proofs.Ythmcdlieglollaa
open Go.RowKit Go.Sort Go.Maps
set_option linter.unusedVariables false
set_option linter.unusedSimpArgs false
set_option linter.unusedSectionVars false
set_option maxRecDepth 20000
attribute [local go_sem] Oper.semAt_some

set_option maxHeartbeats 8000000 in
theorem changed_yes (P Q : Option Addr) (c d : Nat) (l m : List Lk) (o : Int) (ms ms2 : List Int) (hlb : l = builtF o ms) (hr : Right (o :: ms)) (hlb2 : m = builtF o ms2) (hr2 : Right (o :: ms2)) {w : World} (ha : SlL w P c l) (hb : SlL w Q d m) (hn : ms.length ≤ 200) (hn2 : ms2.length ≤ 200) :
    Calls Try.prog 44 #[.slice P l.length c, .slice Q m.length d] w fun e w' => (∃ v, e = .returned (.tuple #[v, .int .i64 0]) ∧ ResI w' v (sortI (chgK l m))) ∧ Ext w w' := by
  have okl := (show ∀ x ∈ l, OkK x from by rw [hlb]; exact built_okK hr)
  have okm := (show ∀ x ∈ m, OkK x from by rw [hlb2]; exact built_okK hr2)
  have hV := fun W hs => valid_any P c l W hs okl
  have hV2 := fun W hs => valid_any Q d m W hs okm
  rw [show validB l = true from by rw [hlb]; exact validB_built hr] at hV
  rw [show validB m = true from by rw [hlb2]; exact validB_built hr2] at hV2
  have hlen : l.length = ms.length + 1 := by rw [hlb]; exact built_len o ms
  have hlen2 : m.length = ms2.length + 1 := by rw [hlb2]; exact built_len o ms2
  obtain ⟨b, off, hP, g3⟩ := own_cell ha (by omega)
  rw [show own l = o from by rw [hlb]; exact built_own o ms] at g3
  subst hP
  obtain ⟨b2, off2, hP2, g4⟩ := own_cell hb (by omega)
  rw [show own m = o from by rw [hlb2]; exact built_own o ms2] at g4
  subst hP2
  have HN := Lib.hid (show l.length ≤ 201 ∧ m.length ≤ 201 ∧ 0 < l.length from ⟨by omega, by omega, by omega⟩)
  have c0 : (0 : Int) < l.length := by omega
  have c0n : 0 < l.length := by omega
  have c1 : (0 : Int) < m.length := by omega
  have c1n : 0 < m.length := by omega
  have oo : (o != o) = false := by simp
  have HAB := Lib.hid (And.intro (And.intro hlb hr) (And.intro hlb2 hr2))
  have hmm := @run_makeMap Try.prog
  clear hlen hlen2 hlb hlb2 hr hr2
  go_enter Try.func44, Try.ntmps44
  go_wp2_with (first
    | (go_at_call 14; (with_reducible refine (hV _ ha).mono ?_); rintro e w1 ⟨rfl, hx1⟩; have t1 := hb.ext hx1)
    | (go_at_call 14; (with_reducible refine (hV2 _ t1).mono ?_); rintro e w2 ⟨rfl, hx2⟩; have hxw := hx1.trans hx2; have g3 := hxw.cell g3; have g4 := hxw.cell g4))
  go_quiet (fail)
  have hxw := hxw.drewN nq
  generalize w2.drewN nq = w3 at *
  have hxm : Ext w ((w3.alloc (.map #[] 0)).alloc (.cells #[.slice (some ⟨b, off, none⟩) l.length c, .slice (some ⟨b2, off2, none⟩) m.length d] 25)) := (hxw.alloc _).alloc _
  have hsz1 : (w3.alloc (.map #[] 0)).heap.size = w3.heap.size + 1 := by simp
  have hblk := World.alloc_heap_new (w3.alloc (.map #[] 0)) (.cells #[.slice (some ⟨b, off, none⟩) l.length c, .slice (some ⟨b2, off2, none⟩) m.length d] 25)
  rw [hsz1] at hblk
  have hcat := concat_any (some ⟨b, off, none⟩) (some ⟨b2, off2, none⟩) c d (w3.heap.size + 1) l m _ (ha.ext hxm) (fun e => by cases e) (hb.ext hxm) (fun e => by cases e) (by omega) (by have := HN.out; omega) (by have := HN.out; omega) (by unfold World.cell?; rw [hblk]; rfl) (by unfold World.cell?; rw [hblk]; rfl)
  have hcm := (CntM.made w3).ext ((Ext.refl _).alloc (.cells #[.slice (some ⟨b, off, none⟩) l.length c, .slice (some ⟨b2, off2, none⟩) m.length d] 25))
  have hBlt : w3.heap.size < ((w3.alloc (.map #[] 0)).alloc (.cells #[.slice (some ⟨b, off, none⟩) l.length c, .slice (some ⟨b2, off2, none⟩) m.length d] 25)).heap.size := by simp; omega
  clear hblk hsz1
  go_wp2_with (go_at_call 71; refine hcat.mono ?_; rintro e w4 ⟨⟨v4, rfl, ho4⟩, hx4⟩; have hcm := hcm.ext hx4; obtain ⟨P4, c4, rfl, s4, q4⟩ := ho4.res elemL (by have := HN.out; rw [List.length_append]; omega))
  have HB4 := Lib.hid (fun b4 (h : P4 = some ⟨b4, 0, none⟩) => ho4.base_ b4 (by rw [h]; rfl))
  have okL : ∀ x ∈ l ++ m, OkK x := fun x hx => by
    rcases List.mem_append.1 hx with h | h
    · exact okl x h
    · exact okm x h
  have HLL := Lib.hid (show (l ++ m).length ≤ 402 from by have := HN.out; rw [List.length_append]; omega)
  have hLlen : l.length + m.length = (l ++ m).length := (List.length_append).symm
  rw [hLlen]
  obtain ⟨g4, rfl, hg4⟩ : ∃ g, P4 = some ⟨g, 0, none⟩ ∧ w3.heap.size < g := by
    obtain ⟨g, cap, e, h1, _⟩ := ho4.tight (by have := HN.out; rw [List.length_append]; omega)
    injection e with e1
    exact ⟨g, e1, by simp at h1; omega⟩
  clear HB4 ho4 hLlen
  generalize hLL : l ++ m = L at *
  have hLn : L.length = l.length + m.length := by rw [← hLL]; exact List.length_append
  have HL := Lib.hid hLL
  have HLn := Lib.hid hLn
  clear hLL hLn
  have HWB := Lib.hid (show w.heap.size ≤ w3.heap.size from hxw.size)
  generalize w3.heap.size = B at *
  go_loopw [39, 8] (fun i _ wr => ∃ q : Nat, q ≤ L.length ∧ i = .int .i64 q ∧ CntM wr B (L.take q) ∧ Upd w4 B wr) (fun i _ _ => L.length - (intOf i).toNat)
  case atStart => exact ⟨0, by omega, rfl, by simpa using hcm, Upd.refl _ _⟩
  case round =>
    obtain ⟨q, hk, rfl, hcq, hup⟩ := hrel
    by_cases hlt : q < L.length
    · obtain ⟨b0, of0, hP, k0, k1, k2, k3⟩ := s4.lkAt q hlt
      injection hP with hP
      injection hP with hP1 hP2
      subst hP1 hP2
      have k0 := hup.cell k0 (show g4 ≠ B by omega)
      have k1 := hup.cell k1 (show g4 ≠ B by omega)
      have k2 := hup.cell k2 (show g4 ≠ B by omega)
      have k3 := hup.cell k3 (show g4 ≠ B by omega)
      simp only [Nat.zero_add] at k0 k1 k2 k3
      have cq : (q : Int) < L.length := by omega
      have cq2 : (q : Int) < (l.length : Int) + m.length := by have := HLn.out; omega
      have d1 : IntKind.i64.wrap ((q : Int) + 1) = (q : Int) + 1 := IntWalk.i64_in _ ⟨by have := HLL.out; omega, by have := HLL.out; omega⟩
      have hox := okL _ (nthL_mem hlt)
      have okT : ∀ y ∈ L.take q, OkK y := fun y hy => okL y (List.mem_of_mem_take hy)
      have hTk : L.take (q + 1) = L.take q ++ [nthL L q] := by rw [List.take_succ_eq_append_getElem hlt, nthL_get hlt]
      have hcW : CntM (wr.alloc (.cells (nthL L q).cells.toArray 31)).drew B (L.take q) := hcq.ext (((Ext.refl wr).alloc _).drew)
      obtain ⟨v0, st, w5, w6, e1, e2, e3, e4, hc6, hg1, hg2⟩ := hcW.step (nthL L q) hox okT (by rw [List.length_take]; have := HLL.out; omega)
      have hcn : List.count (nthL L q) (L.take q) ≤ 402 := Nat.le_trans List.count_le_length (by rw [List.length_take]; have := HLL.out; omega)
      rw [← hTk] at hc6
      have HC6 := Lib.hid hc6
      have HU6 := Lib.hid (show Upd w4 B w6 from (hup.trans (Upd.of_ext (((Ext.refl wr).alloc (.cells (nthL L q).cells.toArray 31)).drew) B)).trans (Upd.trans hg1 hg2))
      have hblt : wr.heap.size ≠ B := fun e => by have := hcq.lt; omega
      have K0 := Lib.hid (lk_box wr (nthL L q) (Upd.refl _ _) hblt)
      have K5 := Lib.hid (lk_box wr (nthL L q) hg1 hblt)
      have K6 := Lib.hid (lk_box wr (nthL L q) (Upd.trans hg1 hg2) hblt)
      clear hTk hc6 hcW hcq hup hox okT hg1 hg2
      unfold Lk.v at e1 e2 e3
      unfold goInt at e1 e4
      unfold Lk.cells at e1 e2
      generalize List.count (nthL L q) (L.take q) = n at *
      generalize nthL L q = x at *
      have d2 : IntKind.i64.wrap ((n : Int) + 1) = (n : Int) + 1 := IntWalk.i64_in _ ⟨by omega, by omega⟩
      go_wp2
      go_region_held3 (fun w' => w'.cell? ⟨wr.heap.size, 0, none⟩ = some (.int .i64 x.1) ∧ w'.cell? ⟨wr.heap.size, 1, none⟩ = some (.int .i64 x.2.1) ∧ w'.cell? ⟨wr.heap.size, 2, none⟩ = some (.int .i64 x.2.2.1) ∧ w'.cell? ⟨wr.heap.size, 3, none⟩ = some (.int .i64 x.2.2.2)) (first | go_keep | exact K0.out | exact K5.out | exact K6.out) (fail)
      all_goals
        go_wp2
        go_roundw
        case rel => exact ⟨q + 1, by omega, by go_num, HC6.out, HU6.out⟩
        case measure => simp [intOf]; omega
    · obtain rfl : q = L.length := by omega
      rw [List.take_length] at hcq
      have cq2 : ¬ (L.length : Int) < (l.length : Int) + m.length := by have := HLn.out; omega
      have hxA : Ext w wr := by
        have h1 : Ext w w4 := hxm.trans hx4
        refine ⟨hup.os.trans h1.os, hup.tape.trans h1.tape, hup.output.trans h1.output, Nat.le_trans h1.size hup.size, fun k hk => ?_⟩
        have hkB : k ≠ B := by have := HWB.out; omega
        exact (hup.block k (Nat.lt_of_lt_of_le hk h1.size) (fun e => hkB (by injection e))).trans (h1.block hk)
      obtain ⟨D, n, hnL, hown, hh, hc⟩ := hcq
      have hsD := size_le hown
      have HD := Lib.hid (And.intro hh hc)
      have HSD := Lib.hid (show size D ≤ 402 from by have := HLL.out; omega)
      have hBl := hown.lt
      clear hh hc hsD hnL
      have hM0 : MetI (wr.alloc (.map #[] 0)) wr.heap.size [] := MetG.made wr
      go_wp2_with (at_range; refine wpList_range_own _ rfl _ _ rfl _ _ lkKeyed Try.underlying81 _ B n D rfl (hown.alloc _) ?_; intro w7 hrg hg7 hs7)
      have hM7 := MetG.kept hM0 hg7 (by simp)
      have hx7 : Ext wr w7 := Below.grown ((Ext.refl wr).alloc (.map #[] 0)) hg7 (by simp) (fun k hk => by cases hk)
      have hkb : wr.heap.size ≠ B := by omega
      have hit : (wr.alloc (.map #[] 0)).heap.size = wr.heap.size + 1 := by simp
      rw [hit] at hrg
      have hK0 : GotK L (has D) [] := fun z => ⟨fun h => (by cases h), fun ⟨y, hy, h1, h2, h3⟩ => by
        have := (HD.out.1 (mkL y)).2 ⟨y, hy, rfl⟩
        rw [this] at h3; cases h3⟩
      generalize hKB : wr.heap.size = KB at *
      have HKB := Lib.hid hKB
      clear hKB hit
      try go_frame
      go_loopw [11] (fun _ W => ∃ (left : Lit → Bool) (cnt : Nat) (lst : List Int), W.ranges Try.prog 31 (plainElem (H := Unit) Try.prog 3) B (KB + 1) n D left cnt ∧ (∀ kl, left kl = true → has D kl = true) ∧ MetI W KB lst ∧ GotK L left lst ∧ lst.length + cnt ≤ size D ∧ Ext wr W) (fun _ W => W.rangeLeft B (KB + 1))
      case atStart => exact ⟨_, _, [], hrg, fun _ h => h, hM7, hK0, by simp, hx7⟩
      case round =>
        obtain ⟨left, cnt, lst, hrg, hLH, hM, hG, hlc, hx⟩ := hrel
        have HLH := Lib.hid hLH
        have HG := Lib.hid hG
        have HLC := Lib.hid hlc
        clear hLH hG hlc
        go_wp2_with (at_next; refine wpList_next_ranges _ rfl _ rfl _ lkKeyed _ (fun v : Value => v) (Value.int .i64) (fun key kl _ => ⟨key, rfl⟩) (fun v y hv => by obtain ⟨c, rfl, _⟩ := plainElem_int_inv Try.underlying3 hv; exact ⟨c, rfl⟩) B (KB + 1) n D left cnt rfl hrg ?_ ?_)
        · intro h0 hl0
          have hxB := hx
          have hS : ∀ z, z ∈ lst ↔ ∃ y ∈ L, L.count y = 1 ∧ y.1 = z := fun z => by
            rw [HG.out z]
            exact ⟨fun ⟨y, h1, h2, h3, _⟩ => ⟨y, h1, h2, h3⟩, fun ⟨y, h1, h2, h3⟩ => ⟨y, h1, h2, h3, hl0 _⟩⟩
          have HS := Lib.hid hS
          have hl4 : lst.length ≤ 402 := by have := HLC.out; have := HSD.out; omega
          have HL4 := Lib.hid hl4
          clear hS h0 hl0 hrg hl4
          obtain ⟨D2, n2, hn2, hown2, hh2, _, _⟩ := hM
          have hsD2 := size_le hown2
          have HSD2 := Lib.hid (show size D2 ≤ 402 from by have := HL4.out; omega)
          have HH2 := Lib.hid hh2
          have hKl := hown2.lt
          clear hh2 hsD2 hn2
          go_wp2_with (at_range; refine wpList_range_own _ rfl _ _ rfl _ _ keyedI Try.underlying61 _ KB n2 D2 rfl hown2 ?_; intro w8 hrg2 hg8 hs8)
          have hx8 : Ext wr w8 := Below.grown (Ext.refl wr) hg8 (Nat.le_refl _) (fun k hk => by cases hk)
          have hG0 : GotI lst (has D2) [] := ⟨List.nodup_nil, fun z => ⟨fun h => (by cases h), fun ⟨h1, h2⟩ => by
            have := HH2.out z
            rw [decide_eq_true h1] at this
            rw [this] at h2; cases h2⟩⟩
          generalize hR2 : wr.heap.size = R2 at *
          have HR2 := Lib.hid hR2
          clear hR2
          try go_frame
          go_loopw [13, 12] (fun _ v W => ∃ (left : Lit → Bool) (cnt : Nat) (out : List Int), W.ranges Try.prog 3 (plainElem (H := Unit) Try.prog 4) KB R2 n2 D2 left cnt ∧ (∀ kl, left kl = true → has D2 kl = true) ∧ OwnI W (R2 + 1) v out ∧ GotI lst left out ∧ out.length + cnt ≤ size D2 ∧ Ext wr W ∧ R2 + 1 ≤ W.heap.size) (fun _ _ W => W.rangeLeft KB R2)
          case atStart => exact ⟨_, _, [], hrg2, fun _ h => h, OwnG.nil _ _ _ _ _, hG0, by simp, hx8, by omega⟩
          case round =>
            obtain ⟨left2, cnt2, out, hrg2, hLH2, ho, hGI, hoc, hx, hsz⟩ := hrel
            have HLH2 := Lib.hid hLH2
            have HGI := Lib.hid hGI
            have HOC := Lib.hid hoc
            clear hLH2 hGI hoc
            go_wp2_with (at_next; refine wpList_next_ranges _ rfl _ rfl _ keyedI _ (Value.int .i64) (fun v : Value => v) (fun key kl h => by obtain ⟨x, rfl, _⟩ := Maps.keyOf_int_inv Try.underlying3 h; exact ⟨x, rfl⟩) (fun v y hv => ⟨v, rfl⟩) KB R2 n2 D2 left2 cnt2 rfl hrg2 ?_ ?_)
            · intro h0 hl0
              have hout : ∀ z, z ∈ out ↔ ∃ y ∈ l ++ m, (l ++ m).count y = 1 ∧ y.1 = z := fun z => by
                rw [HGI.out.2 z, hl0, HL.out, ← HS.out z]
                simp
              have hnl : (ks l).Nodup := by rw [HAB.out.1.1]; exact nd_built HAB.out.1.2
              have hnm : (ks m).Nodup := by rw [HAB.out.2.1]; exact nd_built HAB.out.2.2
              have HSE := Lib.hid (sort_chgK hnl hnm HGI.out.1 hout)
              have hol : out.length ≤ 402 := by have := HOC.out; have := HSD2.out; omega
              have hS := sort_own ho (by omega)
              rw [HSE.out] at hS
              have hbase := ho.base_
              have HOL := Lib.hid (show (sortI (chgK l m)).length ≤ 402 from by rw [← HSE.out, sortI_len]; exact hol)
              have hxW : Ext w wr := hxA.trans (hxB.trans hx)
              have hszw : w.heap.size ≤ R2 + 1 := by have h1 := (hxA.trans hxB).size; have := HR2.out; omega
              clear hout hnl hnm h0 hl0 hrg2 hol
              go_wp2_with (go_at_call 72; refine hS.mono ?_; rintro e w9 ⟨rfl, ho9, hg9⟩)
              go_ret2
              exact ⟨⟨_, rfl, ho9.res elemI (by have := HOL.out; omega)⟩, ext_grown hxW hg9 hbase hszw⟩
            · intro x cc kl ya yb W1 cnt1 hkey hlk hv hat hrg1 hlt1 hg1 hs1 hen
              obtain ⟨x', ex, rfl, hwx⟩ := Maps.keyOf_int_inv Try.underlying3 hkey
              obtain rfl : x = x' := by injection ex
              have hxS : x ∈ lst := by
                have h1 := HLH2.out _ hlk
                have h2 := HH2.out x
                try simp only at h2
                rw [h1] at h2
                exact of_decide_eq_true h2.symm
              have HG2 := Lib.hid (HGI.out.step hxS hlk)
              have ho1 : OwnI W1 (R2 + 1) _ out := World.ownsRow.kept ho hg1 (by
                cases hv : Value.ownBlock _ with
                | none => exact .inl rfl
                | some g => exact .inr (fun e => by injection e with e; have := ho.base_ g hv; omega))
              have hx1 := Below.grown hx hg1 hx.size (fun k hk => by injection hk with hk; have := HR2.out; omega)
              have HMs := Lib.hid (show wr.rangeLeft KB R2 = cnt2 from hrg2.left_eq)
              have HOC1 := Lib.hid (show out.length + 1 + cnt1 ≤ size D2 from by have := HOC.out; omega)
              have HLT := Lib.hid hlt1
              have hsz1 : R2 + 1 ≤ W1.heap.size := by omega
              have HO := Lib.hid ho1
              clear hkey hlk hv hat hlt1 hg1 hs1 hrg2 ho ho1 hxS hwx ex hx
              go_wp2_with (at_builtin; refine wpList_app_G _ elemI rfl _ _ rfl (base := R2 + 1) rfl (HO.out.ext ((Ext.refl _).alloc _)) (m := [x]) rfl (SlG.one elemI.hk _ ?_ ?_) ?_ ?_ ?_ ?_ ?_)
              all_goals first
                | rfl
                | (intro e; cases e; done)
                | (have := HOC1.out; have := HSD2.out; simp; omega; done)
                | skip
              intro v' w9 hown9 hbl
              have hkk : KB < R2 + 1 := by omega
              have hb9 : ∀ k, k < R2 + 1 → w9.heap[k]? = W1.heap[k]? := fun k hk => (hbl.block k hk).trans (Below.heap_alloc W1 _ k (by omega))
              have hrg9 := ranges_same hrg1 (hb9 KB hkk) (hb9 R2 (by omega))
              have hx9 : Ext _ w9 := below_ext (Below.alloc hx1 hx1.size (.cells #[.int .i64 x] 3)) hbl (by have := HR2.out; omega)
              have hsz9 : R2 + 1 ≤ w9.heap.size := Nat.le_trans (Nat.le_trans hsz1 (by simp)) hbl.size
              clear hb9 hbl
              go_wp2
              go_roundw
              case rel => exact ⟨_, cnt1, out ++ [x], hrg9, fun kl h => HLH2.out kl (by simp only [Bool.and_eq_true] at h; exact h.1), hown9, HG2.out, by have := HOC1.out; simp; omega, hx9, hsz9⟩
              case measure => rw [hrg9.left_eq, HMs.out]; exact HLT.out
        · intro key cc kl ya yb W1 cnt1 hkey hlk hv hat hrg1 hlt1 hg1 hs1 hen
          obtain ⟨x, hxL, rfl⟩ := (HD.out.1 kl).1 (HLH.out kl hlk)
          have hxo := okL x hxL
          obtain rfl : key = x.v := lkKeyed.inj hkey (mkL_key hxo)
          obtain ⟨c', ec, ey, _⟩ := plainElem_int_inv (H := Unit) Try.underlying3 hv
          obtain rfl : cc = c' := by injection ec
          have hcc : cc = (L.count x : Nat) := by
            have h1 := hat (.lit (.int .i64 0))
            rw [HD.out.2 x hxo] at h1
            have h2 : ya = .lit (.int .i64 cc) := by injection ey
            rw [h2] at h1
            simpa using h1.symm
          have hx1 := Below.grown hx hg1 hx.size (fun k hk => by injection hk with hk; have := HKB.out; omega)
          have hM1 := MetG.kept hM hg1 (by simp)
          have HMs := Lib.hid (show wr.rangeLeft B (KB + 1) = cnt from hrg.left_eq)
          have hlc1 : lst.length + 1 + cnt1 ≤ size D := by have := HLC.out; omega
          have hlM : lst.length < 9223372036854775807 := by have := HLC.out; have := HSD.out; omega
          have HLC1 := Lib.hid hlc1
          have HLM := Lib.hid hlM
          have HXL := Lib.hid hxL
          have HLT := Lib.hid hlt1
          have hxkey : keyOf Try.prog 3 (.int .i64 x.1) = some (.int .i64 x.1) := hxo.1.key
          clear hlc1 hlM hxL hlt1 hM hg1 hs1 hrg hv hat hkey hlk ey ec hx hxo
          unfold Lk.v at hen ⊢
          by_cases hc1 : L.count x = 1
          · obtain rfl : cc = 1 := by rw [hcc, hc1]; rfl
            have HC1 := Lib.hid hc1
            clear hcc hc1
            go_wp2_with (at_mapUpdate; refine wpList_store_met rfl _ _ _ 61 rfl (hM1.ext ((Ext.refl _).alloc _)) keyedI Try.underlying61 Try.underlying4 HLM.out int_inj rfl _ x.1 rfl rfl trivial hxkey ?_; intro w9 hM9 hg9)
            have hrg9 := (hrg1.alloc (.cells #[.int .i64 x.1, .int .i64 x.2.1, .int .i64 x.2.2.1, .int .i64 x.2.2.2] 31)).kept hg9 (by simp; omega) (by simp)
            have hx9 := Below.grown (hx1.alloc hx1.size (.cells #[.int .i64 x.1, .int .i64 x.2.1, .int .i64 x.2.2.1, .int .i64 x.2.2.2] 31)) hg9 (Nat.le_trans hx1.size (by simp)) (fun k hk => by injection hk with hk; have := HKB.out; omega)
            try go_frame
            go_wp2
            go_roundw
            case rel => exact ⟨_, cnt1, lst ++ [x.1], hrg9, fun kl h => HLH.out kl (by simp only [Bool.and_eq_true] at h; exact h.1), hM9, HG.out.yes okL HXL.out HC1.out, by have := HLC1.out; simp; omega, hx9⟩
            case measure => rw [hrg9.left_eq, HMs.out]; exact HLT.out
          · have hne : (cc == 1) = false := by
              have : cc ≠ 1 := by omega
              simpa using this
            have HC1 := Lib.hid hc1
            clear hcc hc1
            have hrg9 := hrg1.alloc (.cells #[.int .i64 x.1, .int .i64 x.2.1, .int .i64 x.2.2.1, .int .i64 x.2.2.2] 31)
            have hx9 := hx1.alloc hx1.size (.cells #[.int .i64 x.1, .int .i64 x.2.1, .int .i64 x.2.2.1, .int .i64 x.2.2.2] 31)
            go_wp2
            go_roundw
            case rel => exact ⟨_, cnt1, lst, hrg9, fun kl h => HLH.out kl (by simp only [Bool.and_eq_true] at h; exact h.1), hM1.ext ((Ext.refl _).alloc _), HG.out.no okL HXL.out HC1.out, by have := HLC1.out; omega, hx9⟩
            case measure => rw [hrg9.left_eq, HMs.out]; exact HLT.out
end Go.Proofs.Ythmcdlieglollaa

/- ArrayTexts: Parse of the program. -/
import Derived.Test.YtgdbhmdhonnmgaaDoorArYE
import Derived.Sort.LoopGhostIn
namespace Go.Proofs.YtgdbhmdhonnmgaaDoor
open Go.RowKit Go.Maps
set_option linter.unusedVariables false
set_option linter.unusedSimpArgs false
set_option linter.unusedSectionVars false
set_option maxRecDepth 100000
attribute [local go_sem] Oper.semAt_some

theorem stepP_B (b : Int) (a : List (List Int)) (ln : List UInt8) : stepP (b, a) ln = if b = 0 ∧ a = [] ∧ (cutB 32 (mkB (Lib.trimSuffix ln [10]))).length = 2 ∧ (cutB 32 (mkB (Lib.trimSuffix ln [10]))).getD 0 ⟨#[]⟩ = ⟨#[98]⟩ then (atoiV ((cutB 32 (mkB (Lib.trimSuffix ln [10]))).getD 1 ⟨#[]⟩).data.toList, a) else (b, a ++ [(cutB 32 (mkB (Lib.trimSuffix ln [10]))).map fun y => atoiV y.data.toList]) := by
  have g : ∀ k, (cutB 32 (mkB (Lib.trimSuffix ln [10]))).getD k ⟨#[]⟩ = mkB ((cutC 32 (Lib.trimSuffix ln [10])).getD k []) := fun k => by
    unfold cutB
    rw [mkB_toList, List.getD_eq_getElem?_getD, List.getD_eq_getElem?_getD, List.getElem?_map]
    cases (cutC 32 (Lib.trimSuffix ln [10]))[k]? <;> rfl
  have gl : (cutB 32 (mkB (Lib.trimSuffix ln [10]))).length = (cutC 32 (Lib.trimSuffix ln [10])).length := by unfold cutB; rw [mkB_toList, List.length_map]
  have gm : (cutB 32 (mkB (Lib.trimSuffix ln [10]))).map (fun y => atoiV y.data.toList) = (cutC 32 (Lib.trimSuffix ln [10])).map atoiV := by
    unfold cutB
    rw [mkB_toList, List.map_map]
    exact List.map_congr_left (fun x _ => rfl)
  have e : mkB ((cutC 32 (Lib.trimSuffix ln [10])).getD 0 []) = ⟨#[98]⟩ ↔ (cutC 32 (Lib.trimSuffix ln [10])).getD 0 [] = [98] := ⟨fun h => mkB_inj h, fun h => by rw [h]; rfl⟩
  unfold stepP
  by_cases hc : b = 0 ∧ a = [] ∧ (cutC 32 (Lib.trimSuffix ln [10])).length = 2 ∧ (cutC 32 (Lib.trimSuffix ln [10])).getD 0 [] = [98]
  · rw [if_pos hc, if_pos ⟨hc.1, hc.2.1, by rw [gl]; exact hc.2.2.1, by rw [g]; exact e.2 hc.2.2.2⟩, g 1]
    rfl
  · rw [if_neg hc, if_neg (fun h => hc ⟨h.1, h.2.1, by rw [← gl]; exact h.2.2.1, by have := h.2.2.2; rw [g] at this; exact e.1 this⟩), gm]
def InL (al : List Int) (w7 : World) (vl ix : Value) (wz : World) : Prop := ∃ k : Nat, k ≤ al.length ∧ ix = .int .i64 k ∧ wz.ownsRow w7.heap.size 3 1 vl k (intVs (al.take k)) ∧ Ext w7 wz
theorem fin_any (n2 n3 : Nat) (W' : World) (tmps : Array Value) (b e : Int) (P : Option Addr) (l c : Nat) (h2 : tmps.getD 2 undef = .pointer (some ⟨n2, 0, none⟩)) (h3 : tmps.getD 3 undef = .pointer (some ⟨n3, 0, none⟩)) (h4 : tmps.getD 4 undef = .int .i64 e)
    (q2 : W'.cell? ⟨n2, 0, none⟩ = some (.int .i64 b)) (q3 : W'.cell? ⟨n3, 0, none⟩ = some (.slice P l c)) :
    (results Tryd.f8 tmps).run Tryd.prog W' = .ok (.tuple #[.int .i64 b, .slice P l c, .int .i64 e]) W' := by
  have h2' : tmps[2]?.getD undef = .pointer (some ⟨n2, 0, none⟩) := by simpa using h2
  have h3' : tmps[3]?.getD undef = .pointer (some ⟨n3, 0, none⟩) := by simpa using h3
  have h4' : tmps[4]?.getD undef = .int .i64 e := by simpa using h4
  simp only [results, Tryd.results8]
  simp [Sem.run_bind, Result.andThen, h2', h3', h4', go_sem, q2, q3]
theorem own_sl {W : World} {base : Nat} {P : Option Addr} {cap : Nat} {RR : List Row} (h : OwnA W base (.slice P RR.length cap) RR) : ∃ Q C, SlA W P cap Q C (RR.map Row.l) := by
  obtain ⟨P', cap', Q', C', e8, hA8⟩ := h.read
  injection e8 with e81 e82 e83
  subst e81 e83
  exact ⟨Q', C', hA8⟩
def ParsePost (r : Int × List (List Int) × Int) (w : World) (e : Ending) (w' : World) : Prop :=
  ∃ P cap Q C, e = .returned (.tuple #[.int .i64 r.1, .slice P r.2.1.length cap, .int .i64 r.2.2]) ∧ SlA w' P cap Q C r.2.1 ∧ Ext w w'
set_option maxHeartbeats 4000000 in
theorem parse_any (t : ByteArray) (ht : t.size ≤ 10000) (w : World) (hL : LibW w) :
    Calls Tryd.prog 8 #[.string t] w (ParsePost (parseP t.data.toList) w) := by
  have htl : t.data.toList.length = t.size := by simp
  have c0 : ¬ (20000 : Int) < t.size := by omega
  refine calls_of_wpAt Tryd.func8 rfl ?_
  simp only [Tryd.ntmps8, List.size_toArray, List.length_cons, List.length_nil, Nat.reduceAdd, Nat.reduceSub, Array.replicate_succ, Array.replicate_zero, List.push_toArray, List.append_toArray, List.nil_append, List.cons_append]
  refine wpAt_seq_k (fun K hK => ?_)
  go_wp2
  obtain ⟨W3, hW3⟩ : ∃ W3, (w.alloc (.cells #[.int .i64 0] 3)).alloc (.cells #[.slice none 0 0] 22) = W3 := ⟨_, rfl⟩
  have b2 : Boxed W3 w.heap.size 3 (.int .i64 0) := by rw [← hW3]; exact (Boxed.new _ _ _).alloc _
  have b3 : Boxed W3 (w.heap.size + 1) 22 (.slice none 0 0) := by
    rw [← hW3]
    have := Boxed.new (w.alloc (.cells #[.int .i64 0] 3)) 22 (.slice none 0 0)
    rw [World.size_alloc] at this
    exact this
  have hx3 : Ext w W3 := by rw [← hW3]; exact ((Ext.refl _).alloc _).alloc _
  have hz3 : W3.heap.size = w.heap.size + 2 := by rw [← hW3]; simp only [World.size_alloc]
  try rw [hW3]
  clear hW3
  refine wpAt_seq_k (fun K hK => ?_)
  go_wp2
  refine wpAt_seq ?_
  refine wpAt_seq_k (fun K hK => ?_)
  go_wp2_with (go_at_call 17; refine (lines_any t _).mono ?_; rintro e w4 ⟨rfl, rfl⟩)
  obtain ⟨W4, hW4⟩ : ∃ W4, W3.alloc (.cells #[.string t] 9) = W4 := ⟨_, rfl⟩
  have b4 : Boxed W4 (w.heap.size + 2) 9 (.string t) := by
    rw [← hW4]
    have := Boxed.new W3 9 (.string t)
    rw [hz3] at this
    exact this
  have hx4 : Ext W3 W4 := by rw [← hW4]; exact (Ext.refl _).alloc _
  have hz4 : W4.heap.size = w.heap.size + 3 := by rw [← hW4, World.size_alloc, hz3]
  replace b2 := hx4.heap b2
  replace b3 := hx4.heap b3
  have hx := hx3.trans hx4
  rw [hW4]
  clear hW4 hx3 hx4 hz3
  have hps0 : PS w w.heap.size (w.heap.size + 1) (w.heap.size + 5) (readN t.data.toList 0) W4 := ⟨b2, ⟨_, [], b3, OwnA.nil _ _, rfl, fun _ => rfl⟩, hx⟩
  refine wpAt_block ?_
  have HZ := Lib.hid hz4
  have HL := Lib.hid hL
  refine wpAt_rangeFuncS (hf := Tryd.func8) (gf := 33) (lb := #[.pointer (some ⟨w.heap.size + 2, 0, none⟩)]) rfl (enters_of Tryd.func33 (by kernel_rfl) rfl)
    (lines_seq t (w.heap.size + 2) (by omega)) (by omega) (fun _ => rfl)
    (fun i W => PS w w.heap.size (w.heap.size + 1) (w.heap.size + 5) (readN t.data.toList i) W ∧ Boxed W (w.heap.size + 2) 9 (restV t i))
    (fun i W => PS w w.heap.size (w.heap.size + 1) (w.heap.size + 5) (readN t.data.toList i) W ∧ Boxed W (w.heap.size + 2) 9 (restV t (i + 1)))
    (fun _ _ _ => False)
    (fun _ _ _ => False)
    (fun i A B ⟨h1, h2⟩ hx => ⟨h1.ext hx, hx.heap h2⟩)
    (fun i A B ⟨h1, h2⟩ hx => ⟨h1.ext hx, hx.heap h2⟩)
    (fun _ _ _ _ h _ => h)
    (fun i A r r' ⟨h1, h2⟩ hl => ⟨h1.upd (grownBy_putObj' _ _ _) (by omega) (by omega) (by omega) (by omega), (World.putObj_heap_other (by omega)).trans h2⟩)
    (fun _ _ _ _ _ h _ => h)
    (fun i A h => h.2)
    (fun i A hi ⟨h1, h2⟩ => ⟨h1.upd (Upd.setCell _ _ _ _) (by omega) (by omega) (by omega) (by omega), h2.set _⟩)
    ⟨hps0, b4⟩ ?round ?done (fun _ _ _ _ h _ => h.elim) (fun _ _ _ _ h _ => h.elim)
  case round =>
    rintro i W r ⟨h1, h2⟩ hW hD hLp hi
    gi_wp2
    refine ⟨trivial, trivial, ?_⟩
    rintro W5 r' hW5
    have hL5 : W5.heap[W4.heap.size + 1]? = some (.loop r') := by rw [hW5]; exact World.putObj_heap_same (by omega)
    have hD5 : W5.heap[W4.heap.size]? = some (.deferred (some [])) := by rw [hW5, World.putObj_heap_other (by omega)]; exact hD
    have hs5 : W5.heap.size = W.heap.size := by rw [hW5]; simp [World.putObj]
    replace h1 : PS w w.heap.size (w.heap.size + 1) (w.heap.size + 5) (readN t.data.toList i) W5 := by rw [hW5]; exact h1.upd (grownBy_putObj' _ _ _) (by omega) (by omega) (by omega) (by omega)
    replace h2 : Boxed W5 (w.heap.size + 2) 9 (restV t (i + 1)) := by rw [hW5]; exact (World.putObj_heap_other (by omega)).trans h2
    clear hW5 hD hLp
    have HRD := Lib.hid (readN_succ t.data.toList i hi)
    have hil := Nat.le_trans (linesC_len t.data.toList) (by omega : t.data.toList.length ≤ 10000)
    have hal := (readN_facts t.data.toList i).1
    have hll := lineN_len t.data.toList i
    have htl2 := trim_len (lineN t.data.toList i)
    obtain ⟨st, hst⟩ : ∃ st, readN t.data.toList i = st := ⟨_, rfl⟩
    rw [hst] at HRD h1 hal
    clear hst
    obtain ⟨b, a⟩ := st
    simp only [lineV]
    rw [show (linesC t.data.toList).getD i [] = lineN t.data.toList i from rfl]
    obtain ⟨ln, hln⟩ : ∃ ln, lineN t.data.toList i = ln := ⟨_, rfl⟩
    rw [hln] at HRD hll htl2
    rw [hln]
    clear hln
    have hT := fun W => trim_any (mkB ln) (by rw [mkB_size]; omega) W
    rw [mkB_toList] at hT
    have hX := mkB_size (Lib.trimSuffix ln [10])
    have hpl := cutB_pos 32 (mkB (Lib.trimSuffix ln [10]))
    have hpz := cutB_size 32 (mkB (Lib.trimSuffix ln [10]))
    have hpw : (cutB 32 (mkB (Lib.trimSuffix ln [10]))).length ≤ 10001 := by omega
    have hSp := fun W hW => split_any (mkB (Lib.trimSuffix ln [10])) 32 (by omega) W hW
    have hsz : ∀ y ∈ cutB 32 (mkB (Lib.trimSuffix ln [10])), y.size ≤ 10000 := fun y hy => by
      obtain ⟨q, hq, rfl⟩ := List.mem_map.1 hy
      have := cutC_mem 32 _ q hq
      rw [mkB_size]
      rw [mkB_toList] at this
      omega
    obtain ⟨v, RR, a1, a2, a3, a4⟩ := h1.a
    have hb1 := h1.b
    simp only at hb1
    have HS := Lib.hid h1
    have hrl : RR.length ≤ 10000 := by have := congrArg List.length a3; rw [List.length_map] at this; simp only at this hal; omega
    have HST : Hid (stepP (b, a) ln = if b = 0 ∧ a = [] ∧ (cutB 32 (mkB (Lib.trimSuffix ln [10]))).length = 2 ∧ (cutB 32 (mkB (Lib.trimSuffix ln [10]))).getD 0 ⟨#[]⟩ = ⟨#[98]⟩ then (atoiV ((cutB 32 (mkB (Lib.trimSuffix ln [10]))).getD 1 ⟨#[]⟩).data.toList, a) else (b, a ++ [(cutB 32 (mkB (Lib.trimSuffix ln [10]))).map fun y => atoiV y.data.toList])) := Lib.hid (stepP_B b a ln)
    rw [← HRD.out] at HST
    clear HRD
    generalize cutB 32 (mkB (Lib.trimSuffix ln [10])) = pw at *
    generalize mkB (Lib.trimSuffix ln [10]) = X at *
    generalize mkB ln = L at *
    clear htl2 hX hll h1
    by_cases hc : b = 0 ∧ a = [] ∧ pw.length = 2 ∧ pw.getD 0 ⟨#[]⟩ = ⟨#[98]⟩
    · obtain ⟨rfl, rfl, hc3, hc4⟩ := hc
      have HN := Lib.hid (show readN t.data.toList (i + 1) = (atoiV (pw.getD 1 ⟨#[]⟩).data.toList, []) from by rw [HST.out, if_pos ⟨rfl, rfl, hc3, hc4⟩])
      have hRR : RR = [] := List.map_eq_nil_iff.1 a3
      have hv := a4 hRR
      subst hv
      have g0 : pw[0]? = some ⟨#[98]⟩ := by rw [← hc4, List.getD_eq_getElem?_getD, List.getElem?_eq_getElem (by omega)]; rfl
      obtain ⟨y1, hy1⟩ : ∃ y1, pw[1]? = some y1 := ⟨pw[1], List.getElem?_eq_getElem (by omega)⟩
      have e1 : pw.getD 1 ⟨#[]⟩ = y1 := by rw [List.getD_eq_getElem?_getD, hy1]; rfl
      rw [e1] at HN
      have hA := fun W hW => atoi_any y1 (by have := hsz y1 (List.mem_of_getElem? hy1); omega) W hW
      generalize atoiV y1.data.toList = bv at *
      have hnl : ∀ W, (binOp .eql 22 (.slice none 0 0) (.slice none 0 0)).run Tryd.prog W = .ok (.bool true) W := fun W => Lib.run_eql_slice_nil W _ 31 none 0 0 0 0 Tryd.underlying22
      have hb1c := hb1.cell
      have ha1c := a1.cell
      have hb1f := hb1.frozen
      clear HST a2 a3 a4 hrl hsz hpz hal e1 hc4
      gi_wp2_with (first
        | (refine ⟨trivial, rfl, ?_⟩; gi_at_call 19; refine (callsIn_wide.2 (hT _)).mono ?_; rintro e w6 ⟨rfl, h6⟩; subst h6)
        | (refine ⟨trivial, rfl, ?_⟩; gi_at_call 18; refine (callsIn_wide.2 (hSp _ (HL.out.ext HS.out.x))).mono ?_; rintro e w7 ⟨v7, rfl, ho7, hx7⟩; obtain ⟨g, cw, rfl, hg1, hg2, hg3, hg4⟩ := OwnG.tight ho7 (by omega); rw [hc3]; have k0 := OwnG.cell1 (fun _ => rfl) ho7 rfl 0 _ (.string ⟨#[98]⟩) g0 rfl; have k1 := OwnG.cell1 (fun _ => rfl) ho7 rfl 1 _ (.string y1) hy1 rfl; have hb7 := hx7.cell hb1c; have ha7 := hx7.cell ha1c)
        | (refine ⟨trivial, rfl, ?_⟩; gi_at_call 20; refine (callsIn_wide.2 (hA _ (HL.out.ext (HS.out.x.trans hx7)))).mono ?_; rintro e w8 ⟨ev, rfl, hx8⟩; have hb8 := hx8.cell hb7; have hbf := Boxed.frozen (show Boxed w8 w.heap.size 3 (.int .i64 0) from hx8.heap (hx7.heap hb1))))
      have hx58 := hx7.trans hx8
      have hps := (HS.out.ext hx58).setB (Nat.le_refl _) (by omega) (by omega) bv
      have hlow : ∀ k o, k ≠ w.heap.size → w6.heap[k]? = some o → (w8.setCell ⟨w.heap.size, 0, none⟩ (.int .i64 bv)).heap[k]? = some o := fun k o hk ho => (Below.heap_setCell _ _ _ _ hk).trans (hx58.heap ho)
      refine ⟨(hlow _ _ (by omega) hD5).trans hD5.symm, (hlow _ _ (by omega) hL5).trans hL5.symm, ?_, hlow _ _ (by omega) h2⟩
      rw [HN.out]
      exact hps
    · have HN := Lib.hid (show readN t.data.toList (i + 1) = (b, a ++ [pw.map fun y => atoiV y.data.toList]) from by rw [HST.out, if_neg hc])
      obtain ⟨al, hal2⟩ : ∃ al, pw.map (fun y => atoiV y.data.toList) = al := ⟨_, rfl⟩
      rw [hal2] at HN
      have hall : al.length = pw.length := by rw [← hal2, List.length_map]
      have halg : ∀ k y, pw[k]? = some y → al.take (k + 1) = al.take k ++ [atoiV y.data.toList] := fun k y hy => by
        have e : al[k]? = some (atoiV y.data.toList) := by rw [← hal2, List.getElem?_map, hy]; rfl
        rw [List.take_add_one, e]
        rfl
      have HAG := Lib.hid halg
      have HAL := Lib.hid hall
      clear HST halg hal2 hall
      have hsh : v = .slice none 0 0 ∨ ∃ g2 c2, v = .slice (some ⟨g2, 0, none⟩) RR.length c2 := by
        by_cases hR : RR = []
        · exact .inl (a4 hR)
        · exact .inr (own_some a2 hR)
      have hcase : (b == 0) = false ∨ ((b == 0) = true ∧ ∃ g2 c2, v = .slice (some ⟨g2, 0, none⟩) RR.length c2) ∨ ((b == 0) = true ∧ v = .slice none 0 0 ∧ ((pw.length : Int) == 2) = false) ∨ ((b == 0) = true ∧ v = .slice none 0 0 ∧ ((pw.length : Int) == 2) = true ∧ ∃ y0, pw[0]? = some y0 ∧ (y0.toList == (⟨#[98]⟩ : ByteArray).toList) = false) := by
        by_cases q1 : b = 0
        · have q1' : (b == 0) = true := by rw [q1]; rfl
          by_cases hR : RR = []
          · have ha : a = [] := by have := a3; rw [hR] at this; simpa using this.symm
            have hv := a4 hR
            by_cases q2 : pw.length = 2
            · refine .inr (.inr (.inr ⟨q1', hv, by rw [q2]; rfl, pw[0], List.getElem?_eq_getElem (by omega), ?_⟩))
              rw [beq_eq_false_iff_ne]
              intro e
              rw [Lib.toList_data, Lib.toList_data] at e
              refine hc ⟨q1, ha, q2, ?_⟩
              rw [List.getD_eq_getElem?_getD, List.getElem?_eq_getElem (by omega)]
              exact ByteArray.ext (Array.ext' e)
            · exact .inr (.inr (.inl ⟨q1', hv, by rw [beq_eq_false_iff_ne]; omega⟩))
          · exact .inr (.inl ⟨q1', own_some a2 hR⟩)
        · exact .inl (by rw [beq_eq_false_iff_ne]; exact q1)
      clear hc
      have hb1c := hb1.cell
      have ha1c := a1.cell
      have HSP := hSp
      have hnl : ∀ P l c W, (binOp .eql 22 (.slice P l c) (.slice none 0 0)).run Tryd.prog W = .ok (.bool P.isNone) W := fun P l c W => Lib.run_eql_slice_nil W _ 31 P l c 0 0 Tryd.underlying22
      rcases hcase with q1 | ⟨q1, g2, c2, rfl⟩ | ⟨q1, rfl, q3⟩ | ⟨q1, rfl, q3, y0, hy0, q4⟩
      · gi_wp2_with (first
          | (refine ⟨trivial, rfl, ?_⟩; gi_at_call 19; refine (callsIn_wide.2 (hT _)).mono ?_; rintro e w6 ⟨rfl, h6⟩; subst h6)
          | (refine ⟨trivial, rfl, ?_⟩; gi_at_call 18; refine (callsIn_wide.2 (hSp _ (HL.out.ext HS.out.x))).mono ?_; rintro e w7 ⟨v7, rfl, ho7, hx7⟩; obtain ⟨g, cw, rfl, hg1, hg2, hg3, hg4⟩ := OwnG.tight ho7 (by omega); have hb7 := hx7.cell hb1c; have ha7 := hx7.cell ha1c))
        have HO7 := Lib.hid ho7
        clear ho7 hb7 ha7 hb1c ha1c hT hSp HSP
        gi_loopw [7, 47] (fun vl ix wz => InL al w7 vl ix wz) (fun _ ix _ => pw.length - (intOf ix).toNat)
        case atStart => exact ⟨0, by omega, rfl, World.ownsRow_nil _ _ _ _, Ext.refl _⟩
        case round =>
          obtain ⟨k, hk1, rfl, hown, hx8⟩ := hrel
          have hal0 := HAL.out
          have d1 : IntKind.i64.wrap ((k : Int) + 1) = (k : Int) + 1 := IntWalk.i64_in _ ⟨by omega, by omega⟩
          by_cases hkl : k < pw.length
          · obtain ⟨y, hy⟩ : ∃ y, pw[k]? = some y := ⟨pw[k], List.getElem?_eq_getElem hkl⟩
            have kc := hx8.cell (OwnG.cell1 (fun _ => rfl) HO7.out rfl k _ (.string y) hy rfl)
            have hA := fun W hW => atoi_any y (by have := hsz y (List.mem_of_getElem? hy); omega) W hW
            have HT2 := Lib.hid (HAG.out k y hy)
            generalize atoiV y.data.toList = x at *
            have d2 : (k : Int) < pw.length := by omega
            have HO := Lib.hid hown
            obtain ⟨i0, hi0, hz0, hz1, hz2⟩ := info_parts infoI
            clear hown hy hsz
            gi_wp2_with (first
              | (refine ⟨trivial, rfl, ?_⟩; gi_at_call 20; refine (callsIn_wide.2 (hA _ (HL.out.ext (HS.out.x.trans (hx7.trans hx8))))).mono ?_; rintro e w8 ⟨ev, rfl, hx9⟩)
              | (gi_at_builtin; refine wpListIn_append_own _ rfl _ _ 31 rfl w7.heap.size 3 i0 (.int .i64 0) 1 8 Tryd.underlying31 hi0 hz0 hz1 hz2 rfl (by decide) _ _ _ rfl (rowExt HO.out (hx9.alloc _)) ⟨w8.heap.size, 0, none⟩ 1 1 [.int .i64 x] rfl rfl (cell_one _ _ (World.cell?_alloc_mark _ _ _ _ 0) rfl) ?sa1 ?sa2 ?sa3 ?sa4 ?_))
            case sa1 => intro u hu; simp at hu; subst hu; rfl
            case sa2 => unfold maxLen; omega
            case sa3 => omega
            case sa4 => have := hx8.size; have := hx9.size; simp; omega
            intro v' w9 hown' hg9 _
            have hx10 : Ext w7 w9 := Below.grown ((hx8.trans hx9).alloc _) hg9 ((hx8.trans hx9).alloc _).size (fun q hq => by have := (HO.out.lt q hq).1; omega)
            gi_wp2
            go_roundw
            case rel => exact ⟨k + 1, by omega, by go_num, by rw [HT2.out]; unfold intVs; rw [List.map_append]; exact hown', hx10⟩
            case measure => simp [intOf, d1]; omega
          · obtain rfl : k = al.length := by omega
            rw [List.take_length] at hown
            have halne : al ≠ [] := fun e => by rw [e] at hal0; simp at hal0; omega
            obtain ⟨gl, cl, rfl, hTB⟩ := TightB.of hown halne
            have hIn := hTB.inB
            have hge := hIn.1
            have hge2 : gl ≥ w7.heap.size := hge
            have hx78 := hx7.trans hx8
            have hzz := hx7.size
            have hz8 := hx8.size
            obtain ⟨v9, w9, hrun, hO9, hx9, hk9⟩ := app_one_c (w := w) (base := w.heap.size + 5) (r := ⟨gl, cl, al⟩) (by omega) (by omega) (HS.out.x.trans hx78) (a2.ext hx78) (hIn.down (by omega)) (fun z hz => by have := a2.lt hz; simp only; omega) (fun e => by have := (a2.out.lt _ e).2; simp only at this; omega) (by omega)
            have hb9 := hk9 _ _ (by omega) (hx78.heap a1)
            have q9 := Boxed.cell hb9
            have f9 := Boxed.frozen hb9
            have q8 := hx78.cell a1.cell
            obtain ⟨g9, c9, rfl⟩ := own_some hO9 (by simp)
            simp only at hrun
            have e9 : (RR ++ [(⟨gl, cl, al⟩ : Row)]).length = RR.length + 1 := by simp
            rw [e9] at hO9 hrun
            clear e9
            have hlt0 : ¬ (al.length : Int) < pw.length := by omega
            clear hal0
            gi_wp2_with (gi_at_builtin; refine wpListIn_app_run _ rfl _ _ _ rfl _ _ rfl rfl _ _ hrun ?_)
            have hD5' : w6.heap[w.heap.size + 3]? = some (.deferred (some [])) := by rw [← HZ.out]; exact hD5
            have hL5' : w6.heap[w.heap.size + 3 + 1]? = some (.loop r') := by rw [← HZ.out]; exact hL5
            have hu : Upd w9 (w.heap.size + 1) (w9.setCell ⟨w.heap.size + 1, 0, none⟩ (.slice (some ⟨g9, 0, none⟩) (RR.length + 1) c9)) := Upd.setCell _ _ _ _
            have hlow : ∀ q o, q < w.heap.size + 5 → q ≠ w.heap.size + 1 → w6.heap[q]? = some o → (w9.setCell ⟨w.heap.size + 1, 0, none⟩ (.slice (some ⟨g9, 0, none⟩) (RR.length + 1) c9)).heap[q]? = some o := fun q o hq1 hq2 ho => (Below.heap_setCell _ _ _ _ hq2).trans (hk9 _ _ hq1 (hx78.heap ho))
            refine ⟨(hlow _ _ (by omega) (by omega) hD5').trans hD5'.symm, (hlow _ _ (by omega) (by omega) hL5').trans hL5'.symm, ?_, hlow _ _ (by omega) (by omega) h2⟩
            rw [HN.out]
            exact ⟨hlow _ _ (by omega) (by omega) hb1, ⟨_, RR ++ [⟨gl, cl, al⟩], Boxed.set _ hb9, hO9.kept hu (fun e => by have := (hO9.out.lt _ e).1; omega) (fun z hz e => by have := hO9.ge hz; omega), by rw [List.map_append, a3]; rfl, fun e => by simp at e⟩, hx9.setCell (by simp only; omega) _⟩
      · have hnl2 := hnl (some ⟨g2, 0, none⟩) RR.length c2
        clear hnl
        gi_wp2_with (first
          | (refine ⟨trivial, rfl, ?_⟩; gi_at_call 19; refine (callsIn_wide.2 (hT _)).mono ?_; rintro e w6 ⟨rfl, h6⟩; subst h6)
          | (refine ⟨trivial, rfl, ?_⟩; gi_at_call 18; refine (callsIn_wide.2 (hSp _ (HL.out.ext HS.out.x))).mono ?_; rintro e w7 ⟨v7, rfl, ho7, hx7⟩; obtain ⟨g, cw, rfl, hg1, hg2, hg3, hg4⟩ := OwnG.tight ho7 (by omega); have hb7 := hx7.cell hb1c; have ha7 := hx7.cell ha1c))
        have HO7 := Lib.hid ho7
        clear ho7 hb7 ha7 hb1c ha1c hT hSp HSP
        gi_loopw [7, 47] (fun vl ix wz => InL al w7 vl ix wz) (fun _ ix _ => pw.length - (intOf ix).toNat)
        case atStart => exact ⟨0, by omega, rfl, World.ownsRow_nil _ _ _ _, Ext.refl _⟩
        case round =>
          obtain ⟨k, hk1, rfl, hown, hx8⟩ := hrel
          have hal0 := HAL.out
          have d1 : IntKind.i64.wrap ((k : Int) + 1) = (k : Int) + 1 := IntWalk.i64_in _ ⟨by omega, by omega⟩
          by_cases hkl : k < pw.length
          · obtain ⟨y, hy⟩ : ∃ y, pw[k]? = some y := ⟨pw[k], List.getElem?_eq_getElem hkl⟩
            have kc := hx8.cell (OwnG.cell1 (fun _ => rfl) HO7.out rfl k _ (.string y) hy rfl)
            have hA := fun W hW => atoi_any y (by have := hsz y (List.mem_of_getElem? hy); omega) W hW
            have HT2 := Lib.hid (HAG.out k y hy)
            generalize atoiV y.data.toList = x at *
            have d2 : (k : Int) < pw.length := by omega
            have HO := Lib.hid hown
            obtain ⟨i0, hi0, hz0, hz1, hz2⟩ := info_parts infoI
            clear hown hy hsz
            gi_wp2_with (first
              | (refine ⟨trivial, rfl, ?_⟩; gi_at_call 20; refine (callsIn_wide.2 (hA _ (HL.out.ext (HS.out.x.trans (hx7.trans hx8))))).mono ?_; rintro e w8 ⟨ev, rfl, hx9⟩)
              | (gi_at_builtin; refine wpListIn_append_own _ rfl _ _ 31 rfl w7.heap.size 3 i0 (.int .i64 0) 1 8 Tryd.underlying31 hi0 hz0 hz1 hz2 rfl (by decide) _ _ _ rfl (rowExt HO.out (hx9.alloc _)) ⟨w8.heap.size, 0, none⟩ 1 1 [.int .i64 x] rfl rfl (cell_one _ _ (World.cell?_alloc_mark _ _ _ _ 0) rfl) ?sb1 ?sb2 ?sb3 ?sb4 ?_))
            case sb1 => intro u hu; simp at hu; subst hu; rfl
            case sb2 => unfold maxLen; omega
            case sb3 => omega
            case sb4 => have := hx8.size; have := hx9.size; simp; omega
            intro v' w9 hown' hg9 _
            have hx10 : Ext w7 w9 := Below.grown ((hx8.trans hx9).alloc _) hg9 ((hx8.trans hx9).alloc _).size (fun q hq => by have := (HO.out.lt q hq).1; omega)
            gi_wp2
            go_roundw
            case rel => exact ⟨k + 1, by omega, by go_num, by rw [HT2.out]; unfold intVs; rw [List.map_append]; exact hown', hx10⟩
            case measure => simp [intOf, d1]; omega
          · obtain rfl : k = al.length := by omega
            rw [List.take_length] at hown
            have halne : al ≠ [] := fun e => by rw [e] at hal0; simp at hal0; omega
            obtain ⟨gl, cl, rfl, hTB⟩ := TightB.of hown halne
            have hIn := hTB.inB
            have hge := hIn.1
            have hge2 : gl ≥ w7.heap.size := hge
            have hx78 := hx7.trans hx8
            have hzz := hx7.size
            have hz8 := hx8.size
            obtain ⟨v9, w9, hrun, hO9, hx9, hk9⟩ := app_one_c (w := w) (base := w.heap.size + 5) (r := ⟨gl, cl, al⟩) (by omega) (by omega) (HS.out.x.trans hx78) (a2.ext hx78) (hIn.down (by omega)) (fun z hz => by have := a2.lt hz; simp only; omega) (fun e => by have := (a2.out.lt _ e).2; simp only at this; omega) (by omega)
            have hb9 := hk9 _ _ (by omega) (hx78.heap a1)
            have q9 := Boxed.cell hb9
            have f9 := Boxed.frozen hb9
            have q8 := hx78.cell a1.cell
            obtain ⟨g9, c9, rfl⟩ := own_some hO9 (by simp)
            simp only at hrun
            have e9 : (RR ++ [(⟨gl, cl, al⟩ : Row)]).length = RR.length + 1 := by simp
            rw [e9] at hO9 hrun
            clear e9
            have hlt0 : ¬ (al.length : Int) < pw.length := by omega
            clear hal0
            gi_wp2_with (gi_at_builtin; refine wpListIn_app_run _ rfl _ _ _ rfl _ _ rfl rfl _ _ hrun ?_)
            have hD5' : w6.heap[w.heap.size + 3]? = some (.deferred (some [])) := by rw [← HZ.out]; exact hD5
            have hL5' : w6.heap[w.heap.size + 3 + 1]? = some (.loop r') := by rw [← HZ.out]; exact hL5
            have hu : Upd w9 (w.heap.size + 1) (w9.setCell ⟨w.heap.size + 1, 0, none⟩ (.slice (some ⟨g9, 0, none⟩) (RR.length + 1) c9)) := Upd.setCell _ _ _ _
            have hlow : ∀ q o, q < w.heap.size + 5 → q ≠ w.heap.size + 1 → w6.heap[q]? = some o → (w9.setCell ⟨w.heap.size + 1, 0, none⟩ (.slice (some ⟨g9, 0, none⟩) (RR.length + 1) c9)).heap[q]? = some o := fun q o hq1 hq2 ho => (Below.heap_setCell _ _ _ _ hq2).trans (hk9 _ _ hq1 (hx78.heap ho))
            refine ⟨(hlow _ _ (by omega) (by omega) hD5').trans hD5'.symm, (hlow _ _ (by omega) (by omega) hL5').trans hL5'.symm, ?_, hlow _ _ (by omega) (by omega) h2⟩
            rw [HN.out]
            exact ⟨hlow _ _ (by omega) (by omega) hb1, ⟨_, RR ++ [⟨gl, cl, al⟩], Boxed.set _ hb9, hO9.kept hu (fun e => by have := (hO9.out.lt _ e).1; omega) (fun z hz e => by have := hO9.ge hz; omega), by rw [List.map_append, a3]; rfl, fun e => by simp at e⟩, hx9.setCell (by simp only; omega) _⟩
      · have hnl2 := hnl none 0 0
        clear hnl
        gi_wp2_with (first
          | (refine ⟨trivial, rfl, ?_⟩; gi_at_call 19; refine (callsIn_wide.2 (hT _)).mono ?_; rintro e w6 ⟨rfl, h6⟩; subst h6)
          | (refine ⟨trivial, rfl, ?_⟩; gi_at_call 18; refine (callsIn_wide.2 (hSp _ (HL.out.ext HS.out.x))).mono ?_; rintro e w7 ⟨v7, rfl, ho7, hx7⟩; obtain ⟨g, cw, rfl, hg1, hg2, hg3, hg4⟩ := OwnG.tight ho7 (by omega); have hb7 := hx7.cell hb1c; have ha7 := hx7.cell ha1c))
        have HO7 := Lib.hid ho7
        clear ho7 hb7 ha7 hb1c ha1c hT hSp HSP
        gi_loopw [7, 47] (fun vl ix wz => InL al w7 vl ix wz) (fun _ ix _ => pw.length - (intOf ix).toNat)
        case atStart => exact ⟨0, by omega, rfl, World.ownsRow_nil _ _ _ _, Ext.refl _⟩
        case round =>
          obtain ⟨k, hk1, rfl, hown, hx8⟩ := hrel
          have hal0 := HAL.out
          have d1 : IntKind.i64.wrap ((k : Int) + 1) = (k : Int) + 1 := IntWalk.i64_in _ ⟨by omega, by omega⟩
          by_cases hkl : k < pw.length
          · obtain ⟨y, hy⟩ : ∃ y, pw[k]? = some y := ⟨pw[k], List.getElem?_eq_getElem hkl⟩
            have kc := hx8.cell (OwnG.cell1 (fun _ => rfl) HO7.out rfl k _ (.string y) hy rfl)
            have hA := fun W hW => atoi_any y (by have := hsz y (List.mem_of_getElem? hy); omega) W hW
            have HT2 := Lib.hid (HAG.out k y hy)
            generalize atoiV y.data.toList = x at *
            have d2 : (k : Int) < pw.length := by omega
            have HO := Lib.hid hown
            obtain ⟨i0, hi0, hz0, hz1, hz2⟩ := info_parts infoI
            clear hown hy hsz
            gi_wp2_with (first
              | (refine ⟨trivial, rfl, ?_⟩; gi_at_call 20; refine (callsIn_wide.2 (hA _ (HL.out.ext (HS.out.x.trans (hx7.trans hx8))))).mono ?_; rintro e w8 ⟨ev, rfl, hx9⟩)
              | (gi_at_builtin; refine wpListIn_append_own _ rfl _ _ 31 rfl w7.heap.size 3 i0 (.int .i64 0) 1 8 Tryd.underlying31 hi0 hz0 hz1 hz2 rfl (by decide) _ _ _ rfl (rowExt HO.out (hx9.alloc _)) ⟨w8.heap.size, 0, none⟩ 1 1 [.int .i64 x] rfl rfl (cell_one _ _ (World.cell?_alloc_mark _ _ _ _ 0) rfl) ?sc1 ?sc2 ?sc3 ?sc4 ?_))
            case sc1 => intro u hu; simp at hu; subst hu; rfl
            case sc2 => unfold maxLen; omega
            case sc3 => omega
            case sc4 => have := hx8.size; have := hx9.size; simp; omega
            intro v' w9 hown' hg9 _
            have hx10 : Ext w7 w9 := Below.grown ((hx8.trans hx9).alloc _) hg9 ((hx8.trans hx9).alloc _).size (fun q hq => by have := (HO.out.lt q hq).1; omega)
            gi_wp2
            go_roundw
            case rel => exact ⟨k + 1, by omega, by go_num, by rw [HT2.out]; unfold intVs; rw [List.map_append]; exact hown', hx10⟩
            case measure => simp [intOf, d1]; omega
          · obtain rfl : k = al.length := by omega
            rw [List.take_length] at hown
            have halne : al ≠ [] := fun e => by rw [e] at hal0; simp at hal0; omega
            obtain ⟨gl, cl, rfl, hTB⟩ := TightB.of hown halne
            have hIn := hTB.inB
            have hge := hIn.1
            have hge2 : gl ≥ w7.heap.size := hge
            have hx78 := hx7.trans hx8
            have hzz := hx7.size
            have hz8 := hx8.size
            obtain ⟨v9, w9, hrun, hO9, hx9, hk9⟩ := app_one_c (w := w) (base := w.heap.size + 5) (r := ⟨gl, cl, al⟩) (by omega) (by omega) (HS.out.x.trans hx78) (a2.ext hx78) (hIn.down (by omega)) (fun z hz => by have := a2.lt hz; simp only; omega) (fun e => by have := (a2.out.lt _ e).2; simp only at this; omega) (by omega)
            have hb9 := hk9 _ _ (by omega) (hx78.heap a1)
            have q9 := Boxed.cell hb9
            have f9 := Boxed.frozen hb9
            have q8 := hx78.cell a1.cell
            obtain ⟨g9, c9, rfl⟩ := own_some hO9 (by simp)
            simp only at hrun
            have e9 : (RR ++ [(⟨gl, cl, al⟩ : Row)]).length = RR.length + 1 := by simp
            rw [e9] at hO9 hrun
            clear e9
            have hlt0 : ¬ (al.length : Int) < pw.length := by omega
            clear hal0
            gi_wp2_with (gi_at_builtin; refine wpListIn_app_run _ rfl _ _ _ rfl _ _ rfl rfl _ _ hrun ?_)
            have hD5' : w6.heap[w.heap.size + 3]? = some (.deferred (some [])) := by rw [← HZ.out]; exact hD5
            have hL5' : w6.heap[w.heap.size + 3 + 1]? = some (.loop r') := by rw [← HZ.out]; exact hL5
            have hu : Upd w9 (w.heap.size + 1) (w9.setCell ⟨w.heap.size + 1, 0, none⟩ (.slice (some ⟨g9, 0, none⟩) (RR.length + 1) c9)) := Upd.setCell _ _ _ _
            have hlow : ∀ q o, q < w.heap.size + 5 → q ≠ w.heap.size + 1 → w6.heap[q]? = some o → (w9.setCell ⟨w.heap.size + 1, 0, none⟩ (.slice (some ⟨g9, 0, none⟩) (RR.length + 1) c9)).heap[q]? = some o := fun q o hq1 hq2 ho => (Below.heap_setCell _ _ _ _ hq2).trans (hk9 _ _ hq1 (hx78.heap ho))
            refine ⟨(hlow _ _ (by omega) (by omega) hD5').trans hD5'.symm, (hlow _ _ (by omega) (by omega) hL5').trans hL5'.symm, ?_, hlow _ _ (by omega) (by omega) h2⟩
            rw [HN.out]
            exact ⟨hlow _ _ (by omega) (by omega) hb1, ⟨_, RR ++ [⟨gl, cl, al⟩], Boxed.set _ hb9, hO9.kept hu (fun e => by have := (hO9.out.lt _ e).1; omega) (fun z hz e => by have := hO9.ge hz; omega), by rw [List.map_append, a3]; rfl, fun e => by simp at e⟩, hx9.setCell (by simp only; omega) _⟩
      · have hnl2 := hnl none 0 0
        clear hnl
        have l98 : (⟨#[98]⟩ : ByteArray).toList = [98] := by rw [Lib.toList_data]
        have q5 : (y0.toList == [98]) = false := by rw [← l98]; exact q4
        have q6 : ¬ y0.toList = [98] := by simpa using q5
        have q7 : ¬ y0 = ⟨#[98]⟩ := fun e => q6 (by rw [e, l98])
        have q8 : decide (y0.toList = [98]) = false := decide_eq_false q6
        clear l98
        gi_wp2_with (first
          | (refine ⟨trivial, rfl, ?_⟩; gi_at_call 19; refine (callsIn_wide.2 (hT _)).mono ?_; rintro e w6 ⟨rfl, h6⟩; subst h6)
          | (refine ⟨trivial, rfl, ?_⟩; gi_at_call 18; refine (callsIn_wide.2 (hSp _ (HL.out.ext HS.out.x))).mono ?_; rintro e w7 ⟨v7, rfl, ho7, hx7⟩; obtain ⟨g, cw, rfl, hg1, hg2, hg3, hg4⟩ := OwnG.tight ho7 (by omega); have hb7 := hx7.cell hb1c; have ha7 := hx7.cell ha1c; have k0 := OwnG.cell1 (fun _ => rfl) ho7 rfl 0 _ (.string y0) hy0 rfl))
        have HO7 := Lib.hid ho7
        clear ho7 hb7 ha7 hb1c ha1c hT hSp HSP
        gi_loopw [7, 47] (fun vl ix wz => InL al w7 vl ix wz) (fun _ ix _ => pw.length - (intOf ix).toNat)
        case atStart => exact ⟨0, by omega, rfl, World.ownsRow_nil _ _ _ _, Ext.refl _⟩
        case round =>
          obtain ⟨k, hk1, rfl, hown, hx8⟩ := hrel
          have hal0 := HAL.out
          have d1 : IntKind.i64.wrap ((k : Int) + 1) = (k : Int) + 1 := IntWalk.i64_in _ ⟨by omega, by omega⟩
          by_cases hkl : k < pw.length
          · obtain ⟨y, hy⟩ : ∃ y, pw[k]? = some y := ⟨pw[k], List.getElem?_eq_getElem hkl⟩
            have kc := hx8.cell (OwnG.cell1 (fun _ => rfl) HO7.out rfl k _ (.string y) hy rfl)
            have hA := fun W hW => atoi_any y (by have := hsz y (List.mem_of_getElem? hy); omega) W hW
            have HT2 := Lib.hid (HAG.out k y hy)
            generalize atoiV y.data.toList = x at *
            have d2 : (k : Int) < pw.length := by omega
            have HO := Lib.hid hown
            obtain ⟨i0, hi0, hz0, hz1, hz2⟩ := info_parts infoI
            clear hown hy hsz
            gi_wp2_with (first
              | (refine ⟨trivial, rfl, ?_⟩; gi_at_call 20; refine (callsIn_wide.2 (hA _ (HL.out.ext (HS.out.x.trans (hx7.trans hx8))))).mono ?_; rintro e w8 ⟨ev, rfl, hx9⟩)
              | (gi_at_builtin; refine wpListIn_append_own _ rfl _ _ 31 rfl w7.heap.size 3 i0 (.int .i64 0) 1 8 Tryd.underlying31 hi0 hz0 hz1 hz2 rfl (by decide) _ _ _ rfl (rowExt HO.out (hx9.alloc _)) ⟨w8.heap.size, 0, none⟩ 1 1 [.int .i64 x] rfl rfl (cell_one _ _ (World.cell?_alloc_mark _ _ _ _ 0) rfl) ?sd1 ?sd2 ?sd3 ?sd4 ?_))
            case sd1 => intro u hu; simp at hu; subst hu; rfl
            case sd2 => unfold maxLen; omega
            case sd3 => omega
            case sd4 => have := hx8.size; have := hx9.size; simp; omega
            intro v' w9 hown' hg9 _
            have hx10 : Ext w7 w9 := Below.grown ((hx8.trans hx9).alloc _) hg9 ((hx8.trans hx9).alloc _).size (fun q hq => by have := (HO.out.lt q hq).1; omega)
            gi_wp2
            go_roundw
            case rel => exact ⟨k + 1, by omega, by go_num, by rw [HT2.out]; unfold intVs; rw [List.map_append]; exact hown', hx10⟩
            case measure => simp [intOf, d1]; omega
          · obtain rfl : k = al.length := by omega
            rw [List.take_length] at hown
            have halne : al ≠ [] := fun e => by rw [e] at hal0; simp at hal0; omega
            obtain ⟨gl, cl, rfl, hTB⟩ := TightB.of hown halne
            have hIn := hTB.inB
            have hge := hIn.1
            have hge2 : gl ≥ w7.heap.size := hge
            have hx78 := hx7.trans hx8
            have hzz := hx7.size
            have hz8 := hx8.size
            obtain ⟨v9, w9, hrun, hO9, hx9, hk9⟩ := app_one_c (w := w) (base := w.heap.size + 5) (r := ⟨gl, cl, al⟩) (by omega) (by omega) (HS.out.x.trans hx78) (a2.ext hx78) (hIn.down (by omega)) (fun z hz => by have := a2.lt hz; simp only; omega) (fun e => by have := (a2.out.lt _ e).2; simp only at this; omega) (by omega)
            have hb9 := hk9 _ _ (by omega) (hx78.heap a1)
            have q9 := Boxed.cell hb9
            have f9 := Boxed.frozen hb9
            have q8 := hx78.cell a1.cell
            obtain ⟨g9, c9, rfl⟩ := own_some hO9 (by simp)
            simp only at hrun
            have e9 : (RR ++ [(⟨gl, cl, al⟩ : Row)]).length = RR.length + 1 := by simp
            rw [e9] at hO9 hrun
            clear e9
            have hlt0 : ¬ (al.length : Int) < pw.length := by omega
            clear hal0
            gi_wp2_with (gi_at_builtin; refine wpListIn_app_run _ rfl _ _ _ rfl _ _ rfl rfl _ _ hrun ?_)
            have hD5' : w6.heap[w.heap.size + 3]? = some (.deferred (some [])) := by rw [← HZ.out]; exact hD5
            have hL5' : w6.heap[w.heap.size + 3 + 1]? = some (.loop r') := by rw [← HZ.out]; exact hL5
            have hu : Upd w9 (w.heap.size + 1) (w9.setCell ⟨w.heap.size + 1, 0, none⟩ (.slice (some ⟨g9, 0, none⟩) (RR.length + 1) c9)) := Upd.setCell _ _ _ _
            have hlow : ∀ q o, q < w.heap.size + 5 → q ≠ w.heap.size + 1 → w6.heap[q]? = some o → (w9.setCell ⟨w.heap.size + 1, 0, none⟩ (.slice (some ⟨g9, 0, none⟩) (RR.length + 1) c9)).heap[q]? = some o := fun q o hq1 hq2 ho => (Below.heap_setCell _ _ _ _ hq2).trans (hk9 _ _ hq1 (hx78.heap ho))
            refine ⟨(hlow _ _ (by omega) (by omega) hD5').trans hD5'.symm, (hlow _ _ (by omega) (by omega) hL5').trans hL5'.symm, ?_, hlow _ _ (by omega) (by omega) h2⟩
            rw [HN.out]
            exact ⟨hlow _ _ (by omega) (by omega) hb1, ⟨_, RR ++ [⟨gl, cl, al⟩], Boxed.set _ hb9, hO9.kept hu (fun e => by have := (hO9.out.lt _ e).1; omega) (fun z hz e => by have := hO9.ge hz; omega), by rw [List.map_append, a3]; rfl, fun e => by simp at e⟩, hx9.setCell (by simp only; omega) _⟩
  case done =>
    rintro W ⟨h1, h2⟩ hD
    rw [hz4] at hD
    rw [readN_all] at h1
    have hin := (readN_facts t.data.toList (linesC t.data.toList).length).2
    rw [readN_all] at hin
    unfold parseP
    rw [if_neg (by omega)]
    obtain ⟨st, hst⟩ : ∃ st, readP t.data.toList = st := ⟨_, rfl⟩
    rw [hst] at h1 hin ⊢
    clear hst hps0
    obtain ⟨b, a⟩ := st
    simp only at hin ⊢
    obtain ⟨v, RR, a1, a2, a3, a4⟩ := h1.a
    simp only at a3
    subst a3
    obtain ⟨P, cap, Q, C, rfl, hA⟩ := a2.read
    have hF := fun W' (hw : Ext W W') => fmt_any b P cap Q C (RR.map Row.l) W' (hA.ext hw) hin (HL.out.ext (h1.x.trans hw))
    have hlm : (RR.map Row.l).length = RR.length := List.length_map _
    simp only [hlm] at hF a1 a2
    have hb1c : W.cell? ⟨w.heap.size, 0, none⟩ = some (.int .i64 b) := h1.b.cell
    have ha1c := a1.cell
    have hb1f := h1.b.frozen
    have ha1f := a1.frozen
    refine wpAt_of_wp ?_
    by_cases he : t.data.toList = []
    · have ht0 : t = ⟨#[]⟩ := ByteArray.ext (Array.ext' he)
      have HE := Lib.hid he
      clear he
      subst ht0
      clear hF hin a4 h2 hL htl ht c0
      go_wp2
      have B2 : Boxed ((W.setCell ⟨w.heap.size, 0, none⟩ (.int .i64 0)).setCell ⟨w.heap.size + 1, 0, none⟩ (.slice none 0 0)) w.heap.size 3 (.int .i64 0) := (Below.heap_setCell _ _ _ _ (by simp)).trans (h1.b.set _)
      have B3 : Boxed ((W.setCell ⟨w.heap.size, 0, none⟩ (.int .i64 0)).setCell ⟨w.heap.size + 1, 0, none⟩ (.slice none 0 0)) (w.heap.size + 1) 22 (.slice none 0 0) := Boxed.set _ ((Below.heap_setCell _ _ _ _ (by simp)).trans a1)
      have hD1 := (Below.heap_setCell (W.setCell ⟨w.heap.size, 0, none⟩ (.int .i64 0)) ⟨w.heap.size + 1, 0, none⟩ (.slice none 0 0) (w.heap.size + 3) (by simp)).trans ((Below.heap_setCell W ⟨w.heap.size, 0, none⟩ (.int .i64 0) (w.heap.size + 3) (by simp)).trans hD)
      have hX : Ext w ((W.setCell ⟨w.heap.size, 0, none⟩ (.int .i64 0)).setCell ⟨w.heap.size + 1, 0, none⟩ (.slice none 0 0)) := (h1.x.setCell (by simp) _).setCell (by simp) _
      refine ⟨by simp, .inl ⟨_, _, rfl, run_takeDeferred hD1, ?_⟩⟩
      exact ⟨_, fin_any w.heap.size (w.heap.size + 1) _ _ 0 2 none 0 0 rfl rfl rfl (Boxed.cell (t := 3) ((World.putObj_heap_other (by omega)).trans B2)) (Boxed.cell (t := 22) ((World.putObj_heap_other (by omega)).trans B3)), none, 0, fun _ => none, fun _ => 0, rfl, SlA.empty none 0 (by omega) (fun _ => none) (fun _ => 0), Upd.ext hX (grownBy_putObj' _ _ _) (by omega)⟩
    · have ht1 : t.toList.isEmpty = false := by rw [Lib.toList_data]; cases h : t.data.toList with
        | nil => exact absurd h he
        | cons x r => rfl
      by_cases hm : fmtA b (RR.map Row.l) = t.data.toList
      · have HE := Lib.hid hm
        have e1 : mkB (fmtA b (RR.map Row.l)) = t := by rw [hm]; rfl
        rw [e1] at hF
        rw [if_neg (by rintro (h | h); exact he h; exact h hm)]
        clear hm e1 he hin a4 h2 hL htl ht
        have ht2 : (t.toList != t.toList) = false := by simp
        go_wp2_with (go_at_call 6; refine (hF _ (Ext.refl _)).mono ?_; rintro e W6 ⟨rfl, hx6⟩; have k2 := hx6.cell hb1c; have k3 := hx6.cell ha1c; have k2f := Boxed.frozen (hx6.heap h1.b); have k3f := Boxed.frozen (hx6.heap a1))
        have HX6 := h1.x.trans hx6
        have b1 : Boxed W6 w.heap.size 3 (.int .i64 b) := hx6.heap h1.b
        have b3' := hx6.heap a1
        have hD6 := hx6.heap hD
        have hA6 := hA.ext hx6
        clear hF ht1 ht2 hb1c ha1c hb1f ha1f c0
        have c17 := b1.cell
        have c37 := Boxed.cell b3'
        have f17 := b1.frozen
        have f37 := Boxed.frozen b3'
        have o6 := a2.ext hx6
        have u1 : Upd W6 w.heap.size (W6.setCell ⟨w.heap.size, 0, none⟩ (.int .i64 b)) := Upd.setCell _ _ _ _
        have o7 := o6.kept u1 (fun e => by have := (o6.out.lt _ e).1; omega) (fun r hr e => by have := o6.ge hr; omega)
        have u2 : Upd (W6.setCell ⟨w.heap.size, 0, none⟩ (.int .i64 b)) (w.heap.size + 1) ((W6.setCell ⟨w.heap.size, 0, none⟩ (.int .i64 b)).setCell ⟨w.heap.size + 1, 0, none⟩ (.slice P RR.length cap)) := Upd.setCell _ _ _ _
        have o8 := o7.kept u2 (fun e => by have := (o7.out.lt _ e).1; omega) (fun r hr e => by have := o7.ge hr; omega)
        have B2 : Boxed ((W6.setCell ⟨w.heap.size, 0, none⟩ (.int .i64 b)).setCell ⟨w.heap.size + 1, 0, none⟩ (.slice P RR.length cap)) w.heap.size 3 (.int .i64 b) := (Below.heap_setCell _ _ _ _ (by simp)).trans (b1.set _)
        have B3 : Boxed ((W6.setCell ⟨w.heap.size, 0, none⟩ (.int .i64 b)).setCell ⟨w.heap.size + 1, 0, none⟩ (.slice P RR.length cap)) (w.heap.size + 1) 22 (.slice P RR.length cap) := Boxed.set _ ((Below.heap_setCell _ _ _ _ (by simp)).trans b3')
        have hD1 := (Below.heap_setCell (W6.setCell ⟨w.heap.size, 0, none⟩ (.int .i64 b)) ⟨w.heap.size + 1, 0, none⟩ (.slice P RR.length cap) (w.heap.size + 3) (by simp)).trans ((Below.heap_setCell W6 ⟨w.heap.size, 0, none⟩ (.int .i64 b) (w.heap.size + 3) (by simp)).trans hD6)
        have hX : Ext w ((W6.setCell ⟨w.heap.size, 0, none⟩ (.int .i64 b)).setCell ⟨w.heap.size + 1, 0, none⟩ (.slice P RR.length cap)) := (HX6.setCell (by simp) _).setCell (by simp) _
        have hxd : Ext ((W6.setCell ⟨w.heap.size, 0, none⟩ (.int .i64 b)).setCell ⟨w.heap.size + 1, 0, none⟩ (.slice P RR.length cap)) ((W6.setCell ⟨w.heap.size, 0, none⟩ (.int .i64 b)).setCell ⟨w.heap.size + 1, 0, none⟩ (.slice P RR.length cap)).drew := (Ext.refl _).drew
        have B2' : Boxed _ w.heap.size 3 (.int .i64 b) := hxd.heap B2
        have B3' : Boxed _ (w.heap.size + 1) 22 (.slice P RR.length cap) := hxd.heap B3
        have hD1' := hxd.heap hD1
        have hX' := hX.trans hxd
        have o9 := o8.ext hxd
        obtain ⟨Q', C', hA8⟩ := own_sl (o9.putD (o' := .deferred none) hD1' (fun cs t fr e => by cases e))
        clear o9
        clear k2 k3 k2f k3f hx6 h1 a1 a2 o6 o7 o8 u1 u2 B2 B3 hD1 hX hxd
        refine wp_region_noPanic ?_
        go_region_law (fail)
        all_goals (
          refine NoPanic.normal ?_
          go_wp2
          refine ⟨by simp, .inl ⟨_, _, rfl, run_takeDeferred hD1', ?_⟩⟩
          refine ⟨_, fin_any w.heap.size (w.heap.size + 1) _ _ b 0 P RR.length cap rfl rfl rfl (Boxed.cell (t := 3) ((World.putObj_heap_other (by omega)).trans B2')) (Boxed.cell (t := 22) ((World.putObj_heap_other (by omega)).trans B3')), P, cap, Q', C', ?_, hA8, Upd.ext hX' (grownBy_putObj' _ _ _) (by omega)⟩
          simp only [hlm])
      · have ht2 : ((mkB (fmtA b (RR.map Row.l))).toList != t.toList) = true := by
          rw [Lib.toList_data, Lib.toList_data, mkB_toList]
          simpa using hm
        rw [if_pos (.inr hm)]
        have ht4 : ¬ (mkB (fmtA b (RR.map Row.l))).toList = t.toList := by rw [Lib.toList_data, Lib.toList_data, mkB_toList]; exact hm
        have ht3 : ((mkB (fmtA b (RR.map Row.l))).toList == t.toList) = false := by simpa using ht4
        have ht5 : ¬ mkB (fmtA b (RR.map Row.l)) = t := fun e => ht4 (by rw [e])
        have ht6 : decide ((mkB (fmtA b (RR.map Row.l))).toList = t.toList) = false := decide_eq_false ht4
        generalize mkB (fmtA b (RR.map Row.l)) = FF at *
        clear hm he hin a4 h2 hL htl ht
        go_wp2_with (go_at_call 6; refine (hF _ (Ext.refl _)).mono ?_; rintro e W6 ⟨rfl, hx6⟩; have k2 := hx6.cell hb1c; have k3 := hx6.cell ha1c; have k2f := Boxed.frozen (hx6.heap h1.b); have k3f := Boxed.frozen (hx6.heap a1))
        have h6 := h1.ext hx6
        have a6 := hx6.heap a1
        have B2 : Boxed ((W6.setCell ⟨w.heap.size, 0, none⟩ (.int .i64 0)).setCell ⟨w.heap.size + 1, 0, none⟩ (.slice none 0 0)) w.heap.size 3 (.int .i64 0) := (Below.heap_setCell _ _ _ _ (by simp)).trans (h6.b.set _)
        have B3 : Boxed ((W6.setCell ⟨w.heap.size, 0, none⟩ (.int .i64 0)).setCell ⟨w.heap.size + 1, 0, none⟩ (.slice none 0 0)) (w.heap.size + 1) 22 (.slice none 0 0) := Boxed.set _ ((Below.heap_setCell _ _ _ _ (by simp)).trans a6)
        have hD1 := (Below.heap_setCell (W6.setCell ⟨w.heap.size, 0, none⟩ (.int .i64 0)) ⟨w.heap.size + 1, 0, none⟩ (.slice none 0 0) (w.heap.size + 3) (by simp)).trans ((Below.heap_setCell W6 ⟨w.heap.size, 0, none⟩ (.int .i64 0) (w.heap.size + 3) (by simp)).trans (hx6.heap hD))
        have hX : Ext w ((W6.setCell ⟨w.heap.size, 0, none⟩ (.int .i64 0)).setCell ⟨w.heap.size + 1, 0, none⟩ (.slice none 0 0)) := (h6.x.setCell (by simp) _).setCell (by simp) _
        refine ⟨by simp, .inl ⟨_, _, rfl, run_takeDeferred hD1, ?_⟩⟩
        exact ⟨_, fin_any w.heap.size (w.heap.size + 1) _ _ 0 2 none 0 0 rfl rfl rfl (Boxed.cell (t := 3) ((World.putObj_heap_other (by omega)).trans B2)) (Boxed.cell (t := 22) ((World.putObj_heap_other (by omega)).trans B3)), none, 0, fun _ => none, fun _ => 0, rfl, SlA.empty none 0 (by omega) (fun _ => none) (fun _ => 0), Upd.ext hX (grownBy_putObj' _ _ _) (by omega)⟩
end Go.Proofs.YtgdbhmdhonnmgaaDoor

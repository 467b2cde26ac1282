/- ArrayTexts: Format of the program. -/
import Derived.Test.YtgdbhmdhonnmgaaDoorArYB
import Derived.Test.YtgdbhmdhonnmgaaDoorTxW
import Derived.Test.YtgdbhmdhonnmgaaDoorArL
namespace Go.Proofs.YtgdbhmdhonnmgaaDoor
open Go.RowKit Go.Maps
set_option linter.unusedVariables false
set_option linter.unusedSimpArgs false
set_option linter.unusedSectionVars false
set_option maxRecDepth 20000
attribute [local go_sem] Oper.semAt_some

def itB (x : Int) : ByteArray := mkB (Lib.itoa x)
theorem mk_app (a b : List UInt8) : mkB a ++ mkB b = mkB (a ++ b) := str_app a b
theorem mk_lit32 : (⟨#[98, 32]⟩ : ByteArray) = mkB [98, 32] := rfl
theorem mk_lit10 : (⟨#[10]⟩ : ByteArray) = mkB [10] := rfl
theorem itB_list (l : List Int) : (l.map itB).map (·.data.toList) = l.map Lib.itoa := by rw [List.map_map]; exact List.map_congr_left (fun x _ => rfl)
theorem join_any (v : Value) (l : List ByteArray) (base : Nat) (w : World) (h : OwnS w base v l) (hl : l.length ≤ 1000) (hn : (Lib.join (l.map (·.data.toList)) [32]).length ≤ 100000) :
    Calls Tryd.prog 14 #[v, .string ⟨#[32]⟩] w fun e w' => e = .returned (.string (mkB (Lib.join (l.map (·.data.toList)) [32]))) ∧ Ext w w' := by
  rcases h.2 with ⟨rfl, hl0⟩ | ⟨g, c, cur, rfl, hgb, hg, hcl, hcm, hcs, htk⟩
  · obtain rfl := List.length_eq_zero_iff.1 hl0
    refine (Tryd.strings_Join_none _ _ _ _).mono ?_
    rintro e w' ⟨rfl, rfl⟩
    exact ⟨by simp [Lib.join, List.intercalate, mkB], Ext.refl _⟩
  · refine (Tryd.strings_Join g 0 c l ⟨#[32]⟩ w (fun j x hj => ?_) ?_ (by omega) hcl (by show (Lib.join (l.map (·.data.toList)) [32]).length ≤ _; omega)).mono ?_
    · have hjl := (List.getElem?_eq_some_iff.1 hj).1
      have := OwnG.cell1 (fun _ => rfl) h rfl j x (.string x) hj rfl
      rw [Nat.zero_add]
      exact this
    · rcases Nat.lt_or_ge g w.heap.size with h1 | h1
      · exact h1
      · rw [Array.getElem?_eq_none h1] at hg; cases hg
    · rintro e w' ⟨rfl, hb⟩
      exact ⟨rfl, hb⟩
def OutR (b : Int) (LL : List (List Int)) (w : World) (v i : Value) (wr : World) : Prop := ∃ k : Nat, k ≤ LL.length ∧ v = .string (mkB (preA b LL k)) ∧ i = .int .i64 k ∧ Ext w wr
def InR (l : List Int) (w : World) (v i : Value) (wr : World) : Prop := ∃ k : Nat, k ≤ l.length ∧ i = .int .i64 k ∧ OwnS wr w.heap.size v ((l.take k).map itB) ∧ Ext w wr
set_option maxHeartbeats 4000000 in
theorem fmt_yes (b : Int) (P : Option Addr) (cap : Nat) (Q : Nat → Option Addr) (C : Nat → Nat) (LL : List (List Int)) (w : World) (h : SlA w P cap Q C LL) (hok : ArOk b LL) (hL : LibW w) :
    Calls Tryd.prog 6 #[.int .i64 b, .slice P LL.length cap] w fun e w' => e = .returned (.string (mkB (fmtA b LL))) ∧ Ext w w' := by
  have hk : ∀ l ∈ LL, ∀ x ∈ l, keyB x = true := fun l hl => keys_of hok.keys hl
  have hv : ∀ l ∈ LL, ∀ x ∈ l, In64 x := fun l hl x hx => by have := keyB_t (hk l hl x hx); unfold In64; omega
  have hV := avalid_any b P cap Q C LL w h hv
  rw [validF_iff.2 hok] at hV
  have hb := roomB_t hok.room
  have HF := Lib.hid (fmtA_yes hok)
  have HN := Lib.hid (fun i => preA_len hok i)
  have HB := Lib.hid (blocks_le LL (fun l hl => (hok.blocks l hl).1))
  have h4 := hok.keys.2.2
  have hlen : LL.length ≤ 500 := by have := HB.out; omega
  have HC := Lib.hid (show ∀ i, (nthA LL i).length ≤ 500 from fun i => by
    by_cases hi : i < LL.length
    · have e : LL = LL.take i ++ nthA LL i :: LL.drop (i + 1) := by
        conv => lhs; rw [← List.take_append_drop i LL]
        rw [List.drop_eq_getElem_cons hi]
        unfold nthA
        rw [List.getD_eq_getElem?_getD, List.getElem?_eq_getElem hi]
        rfl
      have := congrArg (fun X => X.flatten.length) e
      simp only [List.flatten_append, List.flatten_cons, List.length_append] at this
      omega
    · unfold nthA; rw [List.getD_eq_getElem?_getD, List.getElem?_eq_none (by omega)]; simp)
  clear hok h4
  have hI := fun W hW => itoa_any b (by omega) (by omega) W hW
  have HP0 := Lib.hid (show (⟨#[98, 32]⟩ : ByteArray) ++ mkB (Lib.itoa b) ++ ⟨#[10]⟩ = mkB (preA b LL 0) from by rw [mk_lit32, mk_lit10, mk_app, mk_app]; rfl)
  have hi9 : (mkB (Lib.itoa b)).size ≤ 20 := by rw [mkB_size]; have := HN.out 0; unfold preA at this; have h5 := dec_len b.natAbs 18 (by omega); unfold Lib.itoa; split <;> (first | (simp; omega) | (rw [show b.toNat = b.natAbs by omega]; omega))
  generalize mkB (Lib.itoa b) = B at *
  have l1 : ¬ 9223372036854775807 < 2 + B.size := by omega
  have l2 : ¬ 9223372036854775807 < 2 + B.size + 1 := by omega
  have HLW := Lib.hid hL
  go_enter Tryd.func6, Tryd.ntmps6
  go_wp2_with (first
    | (go_at_call 12; refine hV.mono ?_; rintro e w1 ⟨rfl, hx1⟩)
    | (go_at_call 13; refine (hI _ (hL.ext hx1)).mono ?_; rintro e w2 ⟨rfl, hx2⟩))
  clear hV hI hL
  go_loopw [5, 21] (fun v i wr => OutR b LL w v i wr) (fun _ i _ => LL.length - (intOf i).toNat)
  case atStart => exact ⟨0, by omega, by first | rw [HP0.out] | simp only [HP0.out], rfl, hx1.trans hx2⟩
  case round =>
    obtain ⟨k, hk1, rfl, rfl, hx⟩ := hrel
    have c1 : IntKind.i64.wrap ((k : Int) + 1) = (k : Int) + 1 := IntWalk.i64_in _ ⟨by omega, by omega⟩
    by_cases hlt : k < LL.length
    · obtain ⟨pb, off, hP, hc⟩ := h.at_ k hlt
      have hrow := h.row k hlt
      have hlk := HC.out k
      have hkk : ∀ x ∈ nthA LL k, keyB x = true := hk _ (by unfold nthA; rw [List.getD_eq_getElem?_getD, List.getElem?_eq_getElem hlt]; simp)
      have HS := Lib.hid (preA_succ b LL k hlt)
      have hjl := row_len hkk
      have n1 := HN.out k
      have n2 := HN.out (k + 1)
      subst hP
      have hc := hx.cell hc
      have c2 : (k : Int) < LL.length := by omega
      generalize nthA LL k = l at *
      clear HN HC HB HP0
      go_wp2
      go_loopw [8, 27] (fun v i wz => InR l w v i wz) (fun _ i _ => l.length - (intOf i).toNat)
      case atStart => exact ⟨0, by omega, rfl, OwnG.nil _ _ _ _ _, hx⟩
      case round =>
        obtain ⟨q, hq1, rfl, hown, hx4⟩ := hrel
        have c3 : IntKind.i64.wrap ((q : Int) + 1) = (q : Int) + 1 := IntWalk.i64_in _ ⟨by omega, by omega⟩
        by_cases hlq : q < l.length
        · obtain ⟨rb, ro, hQ, hcc⟩ := hrow.at_ q hlq
          have hkq := keyB_t (hkk (nthI l q) (by unfold nthI; rw [List.getD_eq_getElem?_getD, List.getElem?_eq_getElem hlq]; simp))
          have HT := Lib.hid (show (l.take (q + 1)).map itB = (l.take q).map itB ++ [itB (nthI l q)] from by
            rw [List.take_add_one, nthI, List.getD_eq_getElem?_getD, List.getElem?_eq_getElem hlq, List.map_append]
            rfl)
          have hI := fun W hW => itoa_any (nthI l q) (by omega) (by omega) W hW
          have c4 : (q : Int) < l.length := by omega
          have hcc := hx4.cell hcc
          have hLw := HLW.out
          have HTL : Hid (((l.take q).map itB).length = q) := Lib.hid (by rw [List.length_map, List.length_take]; omega)
          have HO := Lib.hid hown
          rw [show mkB (Lib.itoa (nthI l q)) = itB (nthI l q) from rfl] at hI
          generalize itB (nthI l q) = X at *
          generalize nthI l q = x at *
          rw [hQ]
          clear hown hkk hjl n1 n2 hkq hc HS hQ
          go_wp2_with (first
            | (go_at_call 13; refine (hI _ (hLw.ext hx4)).mono ?_; rintro e w5 ⟨rfl, hx5⟩)
            | (at_builtin; refine wpList_app_G _ elemS rfl _ _ rfl (base := w.heap.size) rfl (HO.out.ext (hx5.alloc _)) (m := [X]) rfl (SlG.one elemS.hk _ ?d1 ?d2) ?d3 ?d4 ?d5 ?d6 ?_))
          case d1 => rfl
          all_goals first
            | (intro e; cases e; done)
            | (have := HTL.out; have := hx4.size; have := hx5.size; omega; done)
            | (have := HTL.out; have := hx4.size; have := hx5.size; simp; omega; done)
            | skip
          intro v' w6 hown' hbl
          have hx6 : Ext w w6 := below_ext ((hx4.trans hx5).alloc _) hbl (Nat.le_refl _)
          go_wp2
          go_roundw
          case rel => exact ⟨q + 1, by omega, by go_num, by rw [HT.out, List.map_take]; exact hown', hx6⟩
          case measure => simp [intOf]; omega
        · obtain rfl : q = l.length := by omega
          rw [List.take_length] at hown
          have hJ := join_any _ (l.map itB) w.heap.size _ hown (by rw [List.length_map]; omega) (by rw [itB_list]; omega)
          rw [itB_list] at hJ
          have HR : Hid (mkB (preA b LL k) ++ (mkB (Lib.join (l.map Lib.itoa) [32]) ++ ⟨#[10]⟩) = mkB (preA b LL (k + 1))) := Lib.hid (by rw [mk_lit10, mk_app, mk_app, HS.out])
          have z1 := mkB_size (Lib.join (l.map Lib.itoa) [32])
          have z2 := mkB_size (preA b LL k)
          have y1 : ¬ 9223372036854775807 < (mkB (Lib.join (l.map Lib.itoa) [32])).size + 1 := by omega
          have y2 : ¬ 9223372036854775807 < (mkB (preA b LL k)).size + ((mkB (Lib.join (l.map Lib.itoa) [32])).size + 1) := by omega
          generalize mkB (Lib.join (l.map Lib.itoa) [32]) = J at *
          generalize mkB (preA b LL k) = A at *
          clear z1 z2 hown hkk hjl n1 n2 hc HS
          go_wp2_with (go_at_call 14; refine hJ.mono ?_; rintro e w5 ⟨rfl, hx5⟩)
          go_roundw
          case rel => exact ⟨k + 1, by omega, by first | rw [HR.out] | simp only [HR.out], by go_num, hx4.trans hx5⟩
          case measure => simp [intOf]; omega
    · obtain rfl : k = LL.length := by omega
      go_wp2
      go_ret
      exact ⟨by rw [HF.out]; rfl, hx⟩
set_option maxHeartbeats 4000000 in
theorem fmt_no (b : Int) (P : Option Addr) (cap : Nat) (Q : Nat → Option Addr) (C : Nat → Nat) (LL : List (List Int)) (w : World) (h : SlA w P cap Q C LL) (hok : ¬ ArOk b LL) (hv : ∀ l ∈ LL, ∀ x ∈ l, In64 x) :
    Calls Tryd.prog 6 #[.int .i64 b, .slice P LL.length cap] w fun e w' => e = .returned (.string (mkB (fmtA b LL))) ∧ Ext w w' := by
  have hV := avalid_any b P cap Q C LL w h hv
  rw [validF_no hok] at hV
  rw [fmtA_no hok]
  clear hok
  go_enter Tryd.func6, Tryd.ntmps6
  go_wp2_with (go_at_call 12; refine hV.mono ?_; rintro e w1 ⟨rfl, hx1⟩)
  go_ret
  exact ⟨rfl, hx1⟩
theorem fmt_any (b : Int) (P : Option Addr) (cap : Nat) (Q : Nat → Option Addr) (C : Nat → Nat) (LL : List (List Int)) (w : World) (h : SlA w P cap Q C LL) (hv : ∀ l ∈ LL, ∀ x ∈ l, In64 x) (hL : LibW w) :
    Calls Tryd.prog 6 #[.int .i64 b, .slice P LL.length cap] w fun e w' => e = .returned (.string (mkB (fmtA b LL))) ∧ Ext w w' := by
  by_cases hok : ArOk b LL
  · exact fmt_yes b P cap Q C LL w h hok hL
  · exact fmt_no b P cap Q C LL w h hok hv
end Go.Proofs.YtgdbhmdhonnmgaaDoor

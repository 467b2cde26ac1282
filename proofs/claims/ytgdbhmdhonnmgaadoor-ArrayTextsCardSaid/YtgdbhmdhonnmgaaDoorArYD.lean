/- ArrayTexts: Format of the reference. -/
import Derived.Test.YtgdbhmdhonnmgaaDoorArYC
import Derived.Test.YtgdbhmdhonnmgaaDoorTxG
namespace Go.Proofs.YtgdbhmdhonnmgaaDoor
open Go.RowKit Go.Maps
set_option linter.unusedVariables false
set_option linter.unusedSimpArgs false
set_option linter.unusedSectionVars false
set_option maxRecDepth 20000
attribute [local go_sem] Oper.semAt_some

def rowT (l : List Int) (q : Nat) : List UInt8 := Lib.join ((l.take q).map Lib.itoa) [32]
theorem rowT_zero (l : List Int) : rowT l 0 = [] := by unfold rowT; rw [List.take_zero]; exact join_nil
theorem rowT_all (l : List Int) : rowT l l.length = Lib.join (l.map Lib.itoa) [32] := by unfold rowT; rw [List.take_length]
theorem rowT_one (l : List Int) (h : 0 < l.length) : rowT l 1 = Lib.itoa (nthI l 0) := by
  unfold rowT
  cases l with
  | nil => simp at h
  | cons x l => simp [nthI, join_one]
theorem rowT_succ (l : List Int) (q : Nat) (h0 : 0 < q) (h : q < l.length) : rowT l (q + 1) = rowT l q ++ 32 :: Lib.itoa (nthI l q) := by
  unfold rowT
  have e : l.take (q + 1) = l.take q ++ [nthI l q] := by
    rw [List.take_add_one, nthI, List.getD_eq_getElem?_getD, List.getElem?_eq_getElem h]; rfl
  rw [e, List.map_append, List.map_cons, List.map_nil, join_snoc _ _ (by
    intro e2
    have := congrArg List.length e2
    rw [List.length_map, List.length_take, List.length_nil] at this
    omega)]
def ROutR (b : Int) (LL : List (List Int)) (w : World) (v i : Value) (wr : World) : Prop := ∃ k : Nat, k ≤ LL.length ∧ v = .string (mkB (preA b LL k)) ∧ i = .int .i64 k ∧ w = wr
def RInR (A : List UInt8) (l : List Int) (w : World) (v i : Value) (wr : World) : Prop := ∃ q : Nat, q ≤ l.length ∧ v = .string (mkB (A ++ rowT l q)) ∧ i = .int .i64 q ∧ w = wr
set_option maxHeartbeats 4000000 in
theorem rfmt_yes (b : Int) (P : Option Addr) (cap : Nat) (Q : Nat → Option Addr) (C : Nat → Nat) (LL : List (List Int)) (w0 : World) (h0 : SlA w0 P cap Q C LL) (hok : ArOk b LL) :
    Calls Tryd.prog 7 #[.int .i64 b, .slice P LL.length cap] w0 fun e w' => e = .returned (.string (mkB (fmtA b LL))) ∧ Ext w0 w' := by
  have hk : ∀ l ∈ LL, ∀ x ∈ l, keyB x = true := fun l hl => keys_of hok.keys hl
  have hV := rvalid_any b P cap Q C LL w0 h0
  rw [validF_iff.2 hok] at hV
  have hb := roomB_t hok.room
  have HF := Lib.hid (fmtA_yes hok)
  have HN := Lib.hid (fun i => preA_len hok i)
  have hlen : LL.length ≤ 500 := by have := blocks_le LL (fun l hl => (hok.blocks l hl).1); have := hok.keys.2.2; omega
  have HNI := Lib.hid (show ∀ k q, k < LL.length → q ≤ (nthA LL k).length → (preA b LL k ++ rowT (nthA LL k) q).length ≤ 10000 from fun k q hk2 hq => by
    have h1 := preA_len hok k
    have h2 := joinT_le 7 (((nthA LL k).take q).map Lib.itoa) (fun x hx => by
      obtain ⟨y, hy, rfl⟩ := List.mem_map.1 hx
      exact itoa_key_len (hk (nthA LL k) (by unfold nthA; rw [List.getD_eq_getElem?_getD, List.getElem?_eq_getElem hk2]; simp) y (List.mem_of_mem_take hy)))
    have h3 : (nthA LL k).length ≤ 50 := by
      have := (hok.blocks (nthA LL k) (by unfold nthA; rw [List.getD_eq_getElem?_getD, List.getElem?_eq_getElem hk2]; simp)).2
      omega
    rw [List.length_map, List.length_take] at h2
    rw [List.length_append]
    unfold rowT
    have h4 : min q (nthA LL k).length * 8 ≤ 50 * 8 := Nat.mul_le_mul_right _ (by omega)
    omega)
  have HB50 := Lib.hid (show ∀ k, k < LL.length → (nthA LL k).length ≤ 50 from fun k hk2 => by
    have := (hok.blocks (nthA LL k) (by unfold nthA; rw [List.getD_eq_getElem?_getD, List.getElem?_eq_getElem hk2]; simp)).2
    omega)
  clear hok
  have hI := fun W => rdec_any b (by omega) (by omega) W
  rw [show (⟨(Lib.itoa b).toArray⟩ : ByteArray) = mkB (Lib.itoa b) from rfl] at hI
  have HP0 := Lib.hid (show (⟨#[98, 32]⟩ : ByteArray) ++ mkB (Lib.itoa b) ++ ⟨#[10]⟩ = mkB (preA b LL 0) from by rw [mk_lit32, mk_lit10, mk_app, mk_app]; rfl)
  have hi9 : (mkB (Lib.itoa b)).size ≤ 20 := by rw [mkB_size]; have h5 := dec_len b.natAbs 18 (by omega); unfold Lib.itoa; split <;> (first | (simp; omega) | (rw [show b.toNat = b.natAbs by omega]; omega))
  generalize mkB (Lib.itoa b) = B at *
  have l1 : ¬ 9223372036854775807 < 2 + B.size := by omega
  have l2 : ¬ 9223372036854775807 < 2 + B.size + 1 := by omega
  go_enter Tryd.func7, Tryd.ntmps7
  go_wp2_with (first
    | (go_at_call 15; refine hV.mono ?_; rintro e w1 ⟨rfl, hx1⟩; have h := h0.ext hx1)
    | (go_at_call 16; refine (hI _).mono ?_; rintro e w2 ⟨rfl, rfl⟩))
  clear hV hI h0
  generalize w1 = w at *
  go_loopw [5, 6] (fun v i wr => ROutR b LL w v i wr) (fun _ i _ => LL.length - (intOf i).toNat)
  case atStart => exact ⟨0, by omega, by first | rw [HP0.out] | simp only [HP0.out], rfl, rfl⟩
  case round =>
    obtain ⟨k, hk1, rfl, rfl, rfl⟩ := hrel
    have c1 : IntKind.i64.wrap ((k : Int) + 1) = (k : Int) + 1 := IntWalk.i64_in _ ⟨by omega, by omega⟩
    by_cases hlt : k < LL.length
    · obtain ⟨pb, off, hP, hc⟩ := h.at_ k hlt
      have hrow := h.row k hlt
      have hkk : ∀ x ∈ nthA LL k, keyB x = true := hk _ (by unfold nthA; rw [List.getD_eq_getElem?_getD, List.getElem?_eq_getElem hlt]; simp)
      have HS := Lib.hid (preA_succ b LL k hlt)
      have hni := fun q hq => HNI.out k q hlt hq
      have hlr := HB50.out k hlt
      have HE := Lib.hid (show mkB (preA b LL k) = mkB (preA b LL k ++ rowT (nthA LL k) 0) from by rw [rowT_zero, List.append_nil])
      subst hP
      have c2 : (k : Int) < LL.length := by omega
      generalize nthA LL k = l at *
      generalize preA b LL k = A at *
      clear HN HNI HP0 HB50
      go_wp2
      go_loopw [5, 7] (fun v i wz => RInR A l w v i wz) (fun _ i _ => l.length - (intOf i).toNat)
      case atStart => exact ⟨0, by omega, by rw [HE.out], rfl, rfl⟩
      case round =>
        obtain ⟨q, hq1, rfl, rfl, rfl⟩ := hrel
        have c3 : IntKind.i64.wrap ((q : Int) + 1) = (q : Int) + 1 := IntWalk.i64_in _ ⟨by omega, by omega⟩
        by_cases hlq : q < l.length
        · obtain ⟨rb, ro, hQ, hcc⟩ := hrow.at_ q hlq
          have hkq := keyB_t (hkk (nthI l q) (by unfold nthI; rw [List.getD_eq_getElem?_getD, List.getElem?_eq_getElem hlq]; simp))
          have hI := fun W => rdec_any (nthI l q) (by omega) (by omega) W
          rw [show (⟨(Lib.itoa (nthI l q)).toArray⟩ : ByteArray) = mkB (Lib.itoa (nthI l q)) from rfl] at hI
          have c4 : (q : Int) < l.length := by omega
          have z1 := hni q hq1
          have z2 := hni (q + 1) hlq
          rw [hQ] at hc
          have z3 : (Lib.itoa (nthI l q)).length ≤ 20 := by
            have h5 := itoa_key_len (hkk (nthI l q) (by unfold nthI; rw [List.getD_eq_getElem?_getD, List.getElem?_eq_getElem hlq]; simp))
            omega
          have z4 := mkB_size (A ++ rowT l q)
          have z5 := mkB_size (Lib.itoa (nthI l q))
          by_cases h00 : q = 0
          · have HR : Hid (mkB (A ++ rowT l q) ++ mkB (Lib.itoa (nthI l q)) = mkB (A ++ rowT l (q + 1))) := Lib.hid (by
              subst h00
              rw [mk_app, rowT_zero, List.append_nil, rowT_one l hlq])
            have y0 : ¬ (0 : Int) < q := by omega
            have y1 : ¬ 9223372036854775807 < (mkB (A ++ rowT l q)).size + (mkB (Lib.itoa (nthI l q))).size := by omega
            generalize mkB (A ++ rowT l q) = X at *
            generalize mkB (Lib.itoa (nthI l q)) = Y at *
            generalize nthI l q = x at *
            clear hkk hni z1 z2 HS HE hQ z3 z4 z5 h00
            go_wp2_with (go_at_call 16; refine (hI _).mono ?_; rintro e w2 ⟨rfl, rfl⟩)
            go_roundw
            case rel => exact ⟨q + 1, by omega, by first | rw [HR.out] | simp only [HR.out], by go_num, rfl⟩
            case measure => simp [intOf]; omega
          · have HR : Hid (mkB (A ++ rowT l q) ++ ⟨#[32]⟩ ++ mkB (Lib.itoa (nthI l q)) = mkB (A ++ rowT l (q + 1))) := Lib.hid (by
              rw [show (⟨#[32]⟩ : ByteArray) = mkB [32] from rfl, mk_app, mk_app, rowT_succ l q (by omega) hlq]
              simp)
            have y0 : (0 : Int) < q := by omega
            have y1 : ¬ 9223372036854775807 < (mkB (A ++ rowT l q)).size + 1 := by omega
            have y2 : ¬ 9223372036854775807 < (mkB (A ++ rowT l q)).size + 1 + (mkB (Lib.itoa (nthI l q))).size := by omega
            generalize mkB (A ++ rowT l q) = X at *
            generalize mkB (Lib.itoa (nthI l q)) = Y at *
            generalize nthI l q = x at *
            clear hkk hni z1 z2 HS HE hQ z3 z4 z5 h00
            go_wp2_with (go_at_call 16; refine (hI _).mono ?_; rintro e w2 ⟨rfl, rfl⟩)
            go_roundw
            case rel => exact ⟨q + 1, by omega, by first | rw [HR.out] | simp only [HR.out], by go_num, rfl⟩
            case measure => simp [intOf]; omega
        · obtain rfl : q = l.length := by omega
          have HR : Hid (mkB (A ++ rowT l l.length) ++ ⟨#[10]⟩ = mkB (preA b LL (k + 1))) := Lib.hid (by rw [mk_lit10, mk_app, HS.out, rowT_all, List.append_assoc])
          have z4 := mkB_size (A ++ rowT l l.length)
          have z1 := hni l.length (Nat.le_refl _)
          have y1 : ¬ 9223372036854775807 < (mkB (A ++ rowT l l.length)).size + 1 := by omega
          generalize mkB (A ++ rowT l l.length) = X at *
          clear hkk hni z1 z4 HS HE
          go_wp2
          go_roundw
          case rel => exact ⟨k + 1, by omega, by first | rw [HR.out] | simp only [HR.out], by go_num, rfl⟩
          case measure => simp [intOf]; omega
    · obtain rfl : k = LL.length := by omega
      go_wp2
      go_ret
      exact ⟨by rw [HF.out]; rfl, hx1⟩
set_option maxHeartbeats 4000000 in
theorem rfmt_any (b : Int) (P : Option Addr) (cap : Nat) (Q : Nat → Option Addr) (C : Nat → Nat) (LL : List (List Int)) (w : World) (h : SlA w P cap Q C LL) :
    Calls Tryd.prog 7 #[.int .i64 b, .slice P LL.length cap] w fun e w' => e = .returned (.string (mkB (fmtA b LL))) ∧ Ext w w' := by
  by_cases hok : ArOk b LL
  · exact rfmt_yes b P cap Q C LL w h hok
  · have hV := rvalid_any b P cap Q C LL w h
    rw [validF_no hok] at hV
    rw [fmtA_no hok]
    clear hok
    go_enter Tryd.func7, Tryd.ntmps7
    go_wp2_with (go_at_call 15; refine hV.mono ?_; rintro e w1 ⟨rfl, hx1⟩)
    go_ret
    exact ⟨rfl, hx1⟩
end Go.Proofs.YtgdbhmdhonnmgaaDoor

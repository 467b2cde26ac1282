/- ItXI; CaO; CaQ; ChJ (merged by group.py) -/
import Derived.Test.YtcbinafokhekmaaGreatDoorQ05
import Derived.Test.YtcbinafokhekmaaGreatDoorQ06
import Derived.Test.YtcbinafokhekmaaGreatDoorQ10
import Derived.Laws.BytesArg
import Derived.Test.YtcbinafokhekmaaGreatDoorQ08
import Derived.Test.YtcbinafokhekmaaGreatDoorQ03
import Derived.Stop.RegionWithIn
import Derived.Sort.QuietIn
import Derived.Sort.LoopGhostIn
import Derived.Shelf.Abstract
import Derived.WalkSmall
import Derived.Maps.AppendAt
namespace Go.Proofs.YtcbinafokhekmaaGreatDoor
section
open Go.RowKit
set_option linter.unusedVariables false
set_option maxRecDepth 20000
set_option linter.unusedSimpArgs false
set_option linter.unusedSectionVars false
set_option maxRecDepth 100000
attribute [local go_sem] Oper.semAt_some

def csU (c : UInt8) : List Value := [.int .u8 (c.toNat : Int)]
theorem elemU : ElemG csU 133 5 1 1 where
  ht := Tryz.underlying133
  info := by
    obtain ⟨i, h1, h2, h3, h4⟩ := u8_info
    exact ⟨i, _, h1, h2, h3, h4, rfl⟩
  k0 := by omega
  hk := fun _ => rfl
  one := fun x u hu => by
    simp [csU] at hu
    subst hu
    rfl
abbrev OwnU := @OwnG UInt8 csU 5 1
/-- a literal, read -/
theorem SlG.lit {α : Type} {cs : α → List Value} {k : Nat} (hk : ∀ x, (cs x).length = k) {w : World} {t0 : TypeId} {C : Array Value} {b n : Nat} (m : List α) (hC : C = (m.flatMap cs).toArray) (hb : b = w.heap.size) (hn : m.length = n) (hlim : n ≤ 9223372036854775807) : SlG cs (w.alloc (.cells C t0)) (some ⟨b, 0, none⟩) n m := by
  subst hC hb hn
  refine ⟨fun i x hi => ⟨w.heap.size, 0, rfl, fun j u hj => ?_⟩, Nat.le_refl _, hlim⟩
  have h1 := flat_at hk m i j x u hi hj
  rw [hk]
  rw [show (0 : Nat) + i * k + j = i * k + j from by omega]
  exact (World.cell?_alloc_mark _ _ _ _ (i * k + j)).trans (by simpa using h1)
/-- string(b) of a list of bytes of the call's own -/
theorem run_text_own {w W : World} {base : Nat} {v : Value} {l : List UInt8} (h : OwnU w base v l) (hx : Ext w W) : (convert 133 9 v).run Tryz.prog W = .ok (.string ⟨l.toArray⟩) W := by
  have h := h.ext hx
  rcases h.2 with ⟨rfl, h0⟩ | ⟨g, cap, cur, rfl, hb, hg, rest⟩
  · obtain rfl : l = [] := List.length_eq_zero_iff.1 h0
    exact run_convert_bytes_nil W 133 5 Tryz.underlying133 Tryz.underlying5 _ _ _ Tryz.underlying9
  · refine run_convert_bytes_back W 133 9 5 ⟨g, 0, none⟩ cap l Tryz.underlying133 Tryz.underlying5 Tryz.underlying9 (fun j hj => ?_)
    have := OwnG.cell (cs := csU) (n := l.length) (fun _ => rfl) h rfl j l[j] (List.getElem?_eq_getElem hj) 0 (.int .u8 (l[j].toNat : Int)) rfl
    rw [add_flat]
    simpa using this
def quoL (s : ByteArray) : List UInt8 := [34] ++ escA s s.size ++ [34]
set_option maxHeartbeats 4000000 in
theorem quoted_any (s : ByteArray) (w : World) (hs : s.size ≤ 1000) :
    Calls Tryz.prog 121 #[.string s] w fun e w' => e = .returned (.string ⟨(quoL s).toArray⟩) ∧ Ext w w' := by
  go_enter Tryz.func121, Tryz.ntmps121
  go_wp2
  go_loopw [5, 3] (fun i v wr => ∃ k : Nat, k ≤ s.size ∧ i = .int .i64 k ∧ OwnU wr w.heap.size v (escA s k) ∧ Ext w wr) (fun i _ _ => s.size - (intOf i).toNat)
  case atStart => exact ⟨0, by omega, rfl, OwnG.nil _ _ _ _ _, Ext.refl w⟩
  case round =>
    obtain ⟨k, hk, rfl, hown, hx⟩ := hrel
    have hle := escA_le s k
    by_cases hlt : k < s.size
    · have c1 : (k : Int) < s.size := by omega
      have hi := fun W => str_index s k hlt W
      rw [byteU_Nall] at hi
      have d1 : IntKind.i64.wrap ((k : Int) + 1) = (k : Int) + 1 := IntWalk.i64_in _ ⟨by omega, by omega⟩
      have HS := Lib.hid (escA_succ s k)
      obtain ⟨u, hu⟩ : ∃ u, byteU s k = u := ⟨_, rfl⟩
      rw [hu] at hi HS
      obtain ⟨acc, hacc⟩ : ∃ acc, escA s k = acc := ⟨_, rfl⟩
      rw [hacc] at hown hle HS
      have HL := Lib.hid hle
      clear hu hacc hle
      by_cases q1 : u = 34
      · subst q1
        have HE := Lib.hid (show escL 34 = [92, 34] from by decide)
        rw [show (((34 : UInt8).toNat : Nat) : Int) = 34 from rfl] at hi
        go_wp2_with (at_builtin; refine wpList_app_G _ elemU rfl _ _ rfl (base := w.heap.size) (m := [92, 34]) rfl (hown.ext ((Ext.refl _).alloc _)) rfl (SlG.lit (cs := csU) (k := 1) (fun _ => rfl) [92, 34] rfl rfl rfl (by simp)) (fun h => by cases h) ?a1 ?a2 ?a3 ?_)
        case a1 => have := HL.out; first | omega | (simp only [List.length_cons, List.length_nil]; omega)
        case a2 => have := HL.out; first | omega | (simp only [List.length_cons, List.length_nil]; omega)
        case a3 => have := hx.size; simp; omega
        intro v' w' hown' hb'
        rw [← HE.out, ← HS.out] at hown'
        go_wp2
        go_roundw
        case rel => exact ⟨k + 1, by omega, by go_num, hown', below_ext (hx.alloc _) hb' (Nat.le_refl _)⟩
        case measure => simp [intOf]; omega
      · by_cases q2 : u = 92
        · subst q2
          have HE := Lib.hid (show escL 92 = [92, 92] from by decide)
          rw [show (((92 : UInt8).toNat : Nat) : Int) = 92 from rfl] at hi
          clear q1
          go_wp2_with (at_builtin; refine wpList_app_G _ elemU rfl _ _ rfl (base := w.heap.size) (m := [92, 92]) rfl (hown.ext ((Ext.refl _).alloc _)) rfl (SlG.lit (cs := csU) (k := 1) (fun _ => rfl) [92, 92] rfl rfl rfl (by simp)) (fun h => by cases h) ?a1 ?a2 ?a3 ?_)
          case a1 => have := HL.out; first | omega | (simp only [List.length_cons, List.length_nil]; omega)
          case a2 => have := HL.out; first | omega | (simp only [List.length_cons, List.length_nil]; omega)
          case a3 => have := hx.size; simp; omega
          intro v' w' hown' hb'
          rw [← HE.out, ← HS.out] at hown'
          go_wp2
          go_roundw
          case rel => exact ⟨k + 1, by omega, by go_num, hown', below_ext (hx.alloc _) hb' (Nat.le_refl _)⟩
          case measure => simp [intOf]; omega
        · have n34 : ((u.toNat : Int) == 34) = false := by
            rw [beq_eq_false_iff_ne]
            intro e
            have h34 : (34 : UInt8).toNat = 34 := rfl
            exact q1 (UInt8.toNat_inj.1 (by omega))
          have n92 : ((u.toNat : Int) == 92) = false := by
            rw [beq_eq_false_iff_ne]
            intro e
            have h92 : (92 : UInt8).toNat = 92 := rfl
            exact q2 (UInt8.toNat_inj.1 (by omega))
          by_cases q3 : u.toNat < 32 ∨ 126 < u.toNat
          · have HE := Lib.hid (escL_hex q1 q2 q3)
            have h256 : u.toNat < 256 := u.toNat_lt
            have z3 : ∀ W, (Instr.index 9 (.string ⟨#[48, 49, 50, 51, 52, 53, 54, 55, 56, 57, 97, 98, 99, 100, 101, 102]⟩) (.int .u8 ((u.toNat : Int) / 16))).run Tryz.prog W = .ok (.int .u8 ((hexd (u.toNat / 16)).toNat : Int)) W := fun W => by
              have := run_hex (u.toNat / 16) (by omega) W
              rwa [Int.natCast_ediv] at this
            have z4 : ∀ W, (Instr.index 9 (.string ⟨#[48, 49, 50, 51, 52, 53, 54, 55, 56, 57, 97, 98, 99, 100, 101, 102]⟩) (.int .u8 ((u.toNat : Int) % 16))).run Tryz.prog W = .ok (.int .u8 ((hexd (u.toNat % 16)).toNat : Int)) W := fun W => by
              have := run_hex (u.toNat % 16) (by omega) W
              rwa [Int.natCast_emod] at this
            have hc : (u.toNat : Int) < 32 ∨ (¬ (u.toNat : Int) < 32 ∧ (126 : Int) < (u.toNat : Int)) := by omega
            have hw1 : IntKind.u8.wrap ((u.toNat : Int) / 16) = (u.toNat : Int) / 16 := by simp [IntKind.wrap, IntKind.bits, IntKind.signed]; omega
            have hw2 : (u.toNat : Int).tmod 16 = (u.toNat : Int) % 16 := Int.tmod_eq_emod_of_nonneg (by omega)
            generalize hexd (u.toNat / 16) = x1 at *
            generalize hexd (u.toNat % 16) = x2 at *
            clear q1 q2 q3
            rcases hc with hc | ⟨hc0, hc⟩
            · go_wp2
              go_region_law
                (first
                  | (refine step_app_G w elemU ?_ (.tmp 38) (.tmp 47) ?_ u3 acc [92, 120, x1, x2] 4 (some ⟨?_, 0, none⟩) 4 ?_ ?_ rfl ?_ ?_ (fun e => by cases e) ?_ ?_ ?_ ?_
                     · rfl
                     · rfl
                     rotate_left 1
                     · rfl
                     · rfl
                     · exact hown.ext ((Ext.refl _).alloc _).drew
                     · exact (SlG.lit (w := wr) (cs := csU) (k := 1) (fun _ => rfl) [92, 120, x1, x2] rfl rfl rfl (by simp)).ext (Ext.refl _).drew
                     · have := HL.out; omega
                     · have := HL.out; omega
                     · exact (hx.alloc _).drew
                     intro v' w' hown' hx' _; rw [← HE.out, ← HS.out] at hown')
                  | fail)
              all_goals (
                go_wp2
                go_roundw
                case rel => exact ⟨k + 1, by omega, by go_num, hown', hx'⟩
                case measure => simp [intOf]; omega)
            · go_wp2
              go_region_law
                (first
                  | (refine step_app_G w elemU ?_ (.tmp 38) (.tmp 47) ?_ u3 acc [92, 120, x1, x2] 4 (some ⟨?_, 0, none⟩) 4 ?_ ?_ rfl ?_ ?_ (fun e => by cases e) ?_ ?_ ?_ ?_
                     · rfl
                     · rfl
                     rotate_left 1
                     · rfl
                     · rfl
                     · exact hown.ext ((Ext.refl _).alloc _).drew
                     · exact (SlG.lit (w := wr) (cs := csU) (k := 1) (fun _ => rfl) [92, 120, x1, x2] rfl rfl rfl (by simp)).ext (Ext.refl _).drew
                     · have := HL.out; omega
                     · have := HL.out; omega
                     · exact (hx.alloc _).drew
                     intro v' w' hown' hx' _; rw [← HE.out, ← HS.out] at hown')
                  | fail)
              all_goals (
                go_wp2
                go_roundw
                case rel => exact ⟨k + 1, by omega, by go_num, hown', hx'⟩
                case measure => simp [intOf]; omega)
          · have HE := Lib.hid (show escL u = [u] from escL_plain q1 q2 (fun h => q3 (.inl h)) (fun h => q3 (.inr h)))
            have c3 : ¬ (u.toNat : Int) < 32 := by omega
            have c4 : ¬ (126 : Int) < (u.toNat : Int) := by omega
            clear q1 q2 q3
            go_wp2_with (at_builtin; refine wpList_app_G _ elemU rfl _ _ rfl (base := w.heap.size) (m := [u]) rfl (hown.ext ((Ext.refl _).alloc _)) rfl (SlG.lit (cs := csU) (k := 1) (fun _ => rfl) [u] rfl rfl rfl (by simp)) (fun h => by cases h) ?a1 ?a2 ?a3 ?_)
            case a1 => have := HL.out; first | omega | (simp only [List.length_cons, List.length_nil]; omega)
            case a2 => have := HL.out; first | omega | (simp only [List.length_cons, List.length_nil]; omega)
            case a3 => have := hx.size; simp; omega
            intro v' w' hown' hb'
            rw [← HE.out, ← HS.out] at hown'
            go_wp2
            go_roundw
            case rel => exact ⟨k + 1, by omega, by go_num, hown', below_ext (hx.alloc _) hb' (Nat.le_refl _)⟩
            case measure => simp [intOf]; omega
    · obtain rfl : k = s.size := by omega
      have hT := fun W hxx => run_text_own (W := W) hown hxx
      have hT := hT wr (Ext.refl wr)
      obtain ⟨X, hX⟩ : ∃ X : ByteArray, ⟨(escA s s.size).toArray⟩ = X := ⟨_, rfl⟩
      have HR := Lib.hid (show (⟨#[34]⟩ ++ X) ++ ⟨#[34]⟩ = (⟨(quoL s).toArray⟩ : ByteArray) from by
        rw [← hX]
        show (⟨[34].toArray⟩ ++ (⟨(escA s s.size).toArray⟩ : ByteArray)) ++ ⟨[34].toArray⟩ = _
        rw [str_app, str_app]
        rfl)
      have hz : X.size ≤ 4000 := by
        rw [← hX]
        show (escA s s.size).toArray.size ≤ 4000
        simp
        omega
      rw [hX] at hT
      have hl1 : ¬ 9223372036854775807 < 1 + X.size := by omega
      have hl2 : ¬ 9223372036854775807 < 1 + X.size + 1 := by omega
      clear hX hle hown
      go_wp2
      go_ret
      exact ⟨by rw [← HR.out]; rfl, hx⟩
theorem rwritten_any (x : Vl) (w : World) (hx : valB x = true) :
    Calls Tryz.prog 95 #[.agg #[.int .i64 x.1, .int .i64 x.2.1, .string x.2.2]] w fun e w' => e = .returned (.string (wrS x)) ∧ Ext w w' := by
  have hv := valB_in hx
  obtain ⟨k, n, s⟩ := x
  simp only at hv ⊢
  have hx0 := (Ext.refl w).alloc (.cells #[.int .i64 k, .int .i64 n, .string s] 68)
  by_cases hk : k = 1
  · subst hk
    have HW := Lib.hid (show wrS (1, n, s) = ⟨(Lib.itoa n).toArray⟩ from by unfold wrS wrL; rw [if_pos rfl])
    have hD := fun W => rdec_any n hv.1.1 hv.1.2 W
    go_enter Tryz.func95, Tryz.ntmps95
    go_wp2_with (go_at_call 64; refine (hD _).mono ?_; rintro e w1 ⟨rfl, rfl⟩)
    go_ret
    exact ⟨by rw [HW.out]; rfl, hx0⟩
  · have hk1 : (k == 1) = false := by simpa using hk
    have HW := Lib.hid (show wrS (k, n, s) = ⟨(quoL s).toArray⟩ from by unfold wrS wrL; rw [if_neg hk]; rfl)
    have hQ := fun W => quoted_any s W hv.2
    go_enter Tryz.func95, Tryz.ntmps95
    go_wp2_with (go_at_call 121; refine (hQ _).mono ?_; rintro e w1 ⟨rfl, hx1⟩)
    go_ret
    exact ⟨by rw [HW.out]; rfl, hx0.trans hx1⟩
theorem join_snoc (sep x : List UInt8) : ∀ (L : List (List UInt8)), Lib.join (L ++ [x]) sep = if L = [] then x else Lib.join L sep ++ sep ++ x
  | [] => by simp [join1]
  | [a] => by
    show Lib.join [a, x] sep = _
    rw [join2, join1, if_neg (by simp), join1]
  | a :: b :: L => by
    have ih := join_snoc sep x (b :: L)
    rw [if_neg (by simp)] at ih ⊢
    show Lib.join (a :: b :: (L ++ [x])) sep = _
    rw [join2, join2]
    have ih : Lib.join (b :: (L ++ [x])) sep = _ := ih
    rw [ih]
    simp only [List.append_assoc]
/-- a row's first values, written -/
def textK (l : List Vl) (k : Nat) : List UInt8 := Lib.join ((l.take k).map wrL) [44]
theorem textK_succ {l : List Vl} {k : Nat} (hk : k < l.length) : textK l (k + 1) = if k = 0 then wrL (nthV l k) else textK l k ++ [44] ++ wrL (nthV l k) := by
  unfold textK
  rw [List.take_add_one, nthV_some hk, List.map_append]
  simp only [Option.toList_some, List.map_cons, List.map_nil]
  rw [join_snoc]
  by_cases h : k = 0
  · subst h
    simp
  · rw [if_neg h, if_neg]
    intro e
    have := congrArg List.length e
    rw [List.length_map, List.length_take, List.length_nil] at this
    omega
theorem textK_le {l : List Vl} (hall : ∀ x ∈ l, valB x = true) (k : Nat) (hk : k ≤ l.length) : (textK l k).length ≤ k * 201 := by
  have := join_le [44] 200 ((l.take k).map wrL) (by
    intro x hx
    obtain ⟨y, hy, rfl⟩ := List.mem_map.1 hx
    exact wrL_le (hall y (List.mem_of_mem_take hy)))
  rw [List.length_map, List.length_take, Nat.min_eq_left hk] at this
  exact this
set_option maxHeartbeats 4000000 in
theorem rtext_any (P : Option Addr) (cap : Nat) (l : List Vl) (w : World) (h : SlV w P cap l) :
    Calls Tryz.prog 66 #[.slice P l.length cap] w fun e w' => e = .returned (.string ⟨(textL l).toArray⟩) ∧ Ext w w' := by
  have hlen := h.len
  have hR := rrow_any P cap l w h
  cases hr : rowB l with
  | false =>
    have HB := Lib.hid (show textL l = [] from by simp [textL, hr])
    simp only [hr] at hR
    clear hr
    go_enter Tryz.func66, Tryz.ntmps66
    go_wp2_with (go_at_call 47; refine hR.mono ?_; rintro e w1 ⟨rfl, hx1⟩)
    go_ret
    exact ⟨by rw [HB.out]; rfl, hx1⟩
  | true =>
    have HB := Lib.hid (show textL l = textK l l.length from by simp [textL, hr, textK])
    simp only [hr] at hR
    have h8 : l.length ≤ 8 := by unfold rowB at hr; simp at hr; exact hr.2
    have hall : ∀ x ∈ l, valB x = true := by unfold rowB at hr; simp at hr; intro x hx; exact hr.1 _ _ _ hx
    clear hr
    go_enter Tryz.func66, Tryz.ntmps66
    go_wp2_with (go_at_call 47; refine hR.mono ?_; rintro e w1 ⟨rfl, hx1⟩)
    go_loopw [4, 3] (fun i v wr => ∃ k : Nat, k ≤ l.length ∧ i = .int .i64 k ∧ v = .string ⟨(textK l k).toArray⟩ ∧ Ext w wr) (fun i _ _ => l.length - (intOf i).toNat)
    case atStart => exact ⟨0, by omega, rfl, rfl, hx1⟩
    case round =>
      obtain ⟨k, hk, rfl, rfl, hx⟩ := hrel
      by_cases hlt : k < l.length
      · obtain ⟨b, off, hP, g0, g1, g2⟩ := h.valAt k hlt
        subst hP
        have g0 := hx.cell g0
        have g1 := hx.cell g1
        have g2 := hx.cell g2
        have c1 : (k : Int) < l.length := by omega
        have d1 : IntKind.i64.wrap ((k : Int) + 1) = (k : Int) + 1 := IntWalk.i64_in _ ⟨by omega, by omega⟩
        have hv := hall _ (nthV_mem hlt)
        have hW := fun W => rwritten_any (nthV l k) W hv
        have hwl := wrL_le hv
        have hkl := textK_le hall k hk
        have HS := Lib.hid (textK_succ hlt)
        obtain ⟨Y, hY⟩ : ∃ Y, wrS (nthV l k) = Y := ⟨_, rfl⟩
        have hYl : Y = ⟨(wrL (nthV l k)).toArray⟩ := hY.symm
        obtain ⟨X, hX⟩ : ∃ X : ByteArray, ⟨(textK l k).toArray⟩ = X := ⟨_, rfl⟩
        have hXs : X.size ≤ 2000 := by
          rw [← hX]
          show (textK l k).toArray.size ≤ 2000
          simp
          omega
        have hYs : Y.size ≤ 200 := by
          rw [hYl]
          show (wrL (nthV l k)).toArray.size ≤ 200
          simpa using hwl
        rw [hY] at hW
        have HYX := Lib.hid (And.intro hYl hX)
        by_cases hk0 : k = 0
        · have c2 : ¬ (0 : Int) < k := by omega
          have HX0 := Lib.hid (show X = ⟨#[]⟩ from by rw [← hX, hk0]; rfl)
          have hl1 : ¬ 9223372036854775807 < X.size + Y.size := by omega
          have HN := Lib.hid (show (X ++ Y : ByteArray) = ⟨(textK l (k + 1)).toArray⟩ from by
            rw [HS.out, if_pos hk0, HX0.out, hYl]
            show (⟨[].toArray⟩ ++ (⟨(wrL (nthV l k)).toArray⟩ : ByteArray)) = _
            rw [str_app, List.nil_append])
          rw [hX]
          generalize nthV l k = x at *
          clear hX hY hYl hwl hkl hv hall HYX hk0
          go_wp2_with (go_at_call 95; refine (hW _).mono ?_; rintro e w2 ⟨rfl, hx2⟩)
          go_roundw
          case rel => exact ⟨k + 1, by omega, by go_num, by rw [← HN.out], hx.trans hx2⟩
          case measure => simp [intOf]; omega
        · have c2 : (0 : Int) < k := by omega
          have hl1 : ¬ 9223372036854775807 < X.size + 1 := by omega
          have hl2 : ¬ 9223372036854775807 < X.size + 1 + Y.size := by omega
          have HN := Lib.hid (show ((X ++ ⟨#[44]⟩) ++ Y : ByteArray) = ⟨(textK l (k + 1)).toArray⟩ from by
            rw [HS.out, if_neg hk0, ← hX, hYl]
            show (⟨(textK l k).toArray⟩ ++ (⟨[44].toArray⟩ : ByteArray)) ++ _ = _
            rw [str_app, str_app])
          rw [hX]
          generalize nthV l k = x at *
          clear hX hY hYl hwl hkl hv hall HYX
          go_wp2_with (go_at_call 95; refine (hW _).mono ?_; rintro e w2 ⟨rfl, hx2⟩)
          go_roundw
          case rel => exact ⟨k + 1, by omega, by go_num, by rw [← HN.out], hx.trans hx2⟩
          case measure => simp [intOf]; omega
      · obtain rfl : k = l.length := by omega
        go_wp2
        go_ret
        exact ⟨by rw [HB.out]; rfl, hx⟩
end
section
open Go.RowKit
set_option linter.unusedVariables false
set_option linter.unusedSimpArgs false
set_option linter.unusedSectionVars false
set_option maxRecDepth 100000
attribute [local go_sem] Oper.semAt_some

def txB (l : List Vl) : ByteArray := ⟨(textL l).toArray⟩
theorem textL_le (l : List Vl) : (textL l).length ≤ 2000 := by
  unfold textL
  split
  · rename_i hr
    unfold rowB at hr
    rw [Bool.and_eq_true, List.all_eq_true] at hr
    have h8 := of_decide_eq_true hr.2
    have := textK_le hr.1 l.length (Nat.le_refl _)
    have e : textK l l.length = Lib.join (l.map wrL) [44] := by
      unfold textK
      rw [List.take_length]
    rw [e] at this
    omega
  · simp
theorem txB_size (l : List Vl) : (txB l).size ≤ 2000 := by
  have := textL_le l
  show (textL l).toArray.size ≤ 2000
  simpa using this
theorem hashN_in (s : ByteArray) : ∀ n, 0 ≤ hashN s n ∧ hashN s n ≤ 18446744073709551615
  | 0 => by
    unfold hashN
    omega
  | n + 1 => by
    show 0 ≤ hstep _ _ ∧ hstep _ _ ≤ _
    unfold hstep
    generalize bits .xor .u64 (hashN s n) ((byteU s n).toNat : Int) * 1099511628211 = z
    simp [IntKind.wrap, IntKind.bits, IntKind.signed]
    omega
def homeV (row : List Vl) : Nat := (hashF (txB row)).toNat
theorem homeV_hash (row : List Vl) : (hashF (txB row)) = (homeV row : Int) := by
  unfold homeV
  have := (hashN_in (txB row) (txB row).size).1
  unfold hashF
  omega
theorem homeV_le (row : List Vl) : homeV row ≤ 18446744073709551615 := by
  unfold homeV hashF
  have := hashN_in (txB row) (txB row).size
  omega
/-- an entry's hash; an entry that may be -/
def hdH (x : Hd) : Nat := homeV x.1
def hdV (x : Hd) : Prop := rowB x.1 = true ∧ keyB x.2 = true
theorem mod_wrap (v h : Nat) (h1 : 1 ≤ h) (h2 : h ≤ 100) : wrap64 ((v : Int) % h) = ((v % h : Nat) : Int) := by
  have h3 := Nat.mod_lt v (show 0 < h by omega)
  rw [← Int.natCast_emod]
  exact IntWalk.wrap64_in _ ⟨by omega, by omega⟩
theorem rhome_any (P : Option Addr) (c : Nat) (row : List Vl) (h : Nat) (w : World) (hs : SlV w P c row) (hr : rowB row = true) (h1 : 1 ≤ h) (h2 : h ≤ 100) :
    Calls Tryz.prog 43 #[.slice P row.length c, .int .i64 h] w fun e w' => e = .returned (.tuple #[.int .i64 (homeV row % h : Nat), .int .i64 0]) ∧ Ext w w' := by
  have hV := rrow_any P c row w hs
  rw [hr] at hV
  have hT := fun W (hx : Ext w W) => rtext_any P c row W (hs.ext hx)
  have hH := fun W => rhash_any (txB row) W (by have := txB_size row; omega)
  rw [homeV_hash] at hH
  have hle := homeV_le row
  have c1 : (1 : Int) ≤ h := by omega
  have c2 : (h : Int) ≤ 100 := by omega
  have c3 : ¬ (h : Int) < 1 := by omega
  have c4 : ¬ (100 : Int) < h := by omega
  change ∀ W, Ext w W → Calls _ _ _ W fun e w' => e = .returned (.string (txB row)) ∧ Ext W w' at hT
  generalize txB row = X at *
  generalize homeV row = v at *
  have c5 : (v : Int) ≤ 18446744073709551615 := by omega
  go_enter Tryz.func43, Tryz.ntmps43
  go_wp2_with (first
    | (go_at_call 47; refine hV.mono ?_; rintro e w1 ⟨rfl, hx1⟩)
    | (go_at_call 66; refine (hT _ hx1).mono ?_; rintro e w2 ⟨rfl, hx2⟩)
    | (go_at_call 81; refine (hH _).mono ?_; rintro e w3 ⟨rfl, rfl⟩))
  go_ret2
  exact ⟨by rw [← mod_wrap v h h1 h2]; first | rfl | (simp; done) | (congr 1), hx1.trans hx2⟩
end
section
open Go.RowKit Go.Sort
set_option linter.unusedVariables false
set_option linter.unusedSimpArgs false
set_option linter.unusedSectionVars false
set_option maxRecDepth 100000
attribute [local go_sem] Oper.semAt_some

/-- place i of a path -/
def atP (p : List Nat) (i : Nat) : Nat := p.getD i 0
theorem atP_some {p : List Nat} {i : Nat} (h : i < p.length) : p[i]? = some (atP p i) := some_getD h
theorem stepF_at {p : List Nat} {i : Nat} (h : i < p.length) : stepF p i = (atP p i : Nat) := stepF_in h
theorem run_any (t : Nat) (n : Int) (w : World) :
    Calls Tryz.prog 52 #[.pointer (some ⟨t, 0, none⟩), .int .i64 n] w fun e w' => e = .returned (.func (.func 86) #[] #[.pointer (some ⟨w.heap.size + 1, 0, none⟩), .pointer (some ⟨w.heap.size, 0, none⟩)]) ∧ w' = (w.alloc (.cells #[.pointer (some ⟨t, 0, none⟩)] 25)).alloc (.cells #[.int .i64 n] 3) := by
  go_enter Tryz.func52, Tryz.ntmps52
  go_wp2
  go_ret
  exact ⟨rfl, rfl⟩
/-- what the iterator reads -/
structure RunK (c1 c2 t : Nat) (n h r : Int) (P : Option Addr) (c : Nat) (l : List BkR) (A : World) : Prop where
  hm : A.cell? ⟨c1, 0, none⟩ = some (.int .i64 n)
  tb : A.cell? ⟨c2, 0, none⟩ = some (.pointer (some ⟨t, 0, none⟩))
  ct : CtR A t h r P c l
theorem RunK.ext {c1 c2 t : Nat} {n h r : Int} {P : Option Addr} {c : Nat} {l : List BkR} {A B : World} (H : RunK c1 c2 t n h r P c l A) (hx : Ext A B) : RunK c1 c2 t n h r P c l B := ⟨hx.cell H.hm, hx.cell H.tb, H.ct.ext hx⟩
set_option maxHeartbeats 4000000 in
theorem run_seq (c1 c2 t : Nat) (n h r : Int) (P : Option Addr) (c : Nat) (l : List BkR) (p : List Nat) (hw : Way (absT l) n p) :
    SeqP Tryz.prog 86 #[.pointer (some ⟨c1, 0, none⟩), .pointer (some ⟨c2, 0, none⟩)] (fun i => #[.int .i64 (atP p i : Nat)]) p.length (RunK c1 c2 t n h r P c l) := by
  intro lq J Jx Jp W hJ hJx hK hY h0
  have hc0 := (hK 0 W h0).hm
  have HW := Lib.hid hw
  have HLT := Lib.hid (way_lt hw)
  have hn0 := way_first hw
  rw [hn0] at hc0
  clear hw hn0
  refine callsIn_of_wp Tryz.func86 rfl trivial ?_ rfl
  simp only [Tryz.ntmps86, List.size_toArray, List.length_cons, List.length_nil, Nat.reduceAdd, Nat.reduceSub, Array.replicate_succ, Array.replicate_zero, List.push_toArray, List.append_toArray, List.nil_append, List.cons_append]
  gi_wp2
  gi_loopg [4] p.length (fun k i wr => ∃ j : Nat, k + j = p.length ∧ i = .int .i64 (stepF p j) ∧ J j wr)
  case atStart => exact ⟨0, by omega, rfl, h0⟩
  case round =>
    obtain ⟨j, hk, rfl, hj⟩ := hrel
    by_cases hlt : j < p.length
    · rw [stepF_at hlt]
      obtain ⟨gp, rfl⟩ : ∃ gp, gk = gp + 1 := ⟨gk - 1, by omega⟩
      have HGK := Lib.hid hk
      have hbl : atP p j < l.length := by
        have := HLT.out (atP p j) (List.mem_of_getElem? (atP_some hlt))
        rwa [absT_len] at this
      have HST := Lib.hid (show (nthBk l (atP p j)).2 = stepF p (j + 1) from by
        have := way_step HW.out j hlt
        rw [show p.getD j 0 = atP p j from rfl] at this
        rw [absT_bkt hbl] at this
        exact this)
      have HBL := Lib.hid hbl
      obtain ⟨fn, tmps, assign, body, hy, hR⟩ := hY j wr hj hlt
      clear hk hbl
      generalize atP p j = q at *
      have hne : ((q : Int) != -1) = true := by first | (simp; done) | (simp; omega)
      gi_wp2_with (refine ⟨rfl, ?_⟩; refine hR.mono ?_; intro e W3 h3; rcases yield_cases h3 with ⟨ch, rfl, hp3⟩ | ⟨tt, rfl, h4⟩; exact ⟨rfl, .inr ⟨j, ch, hlt, rfl, hp3⟩⟩; clear h3; rcases h4 with ⟨rfl, hj3⟩ | ⟨rfl, hx3⟩; (have hk3 := hK _ _ hj3; obtain ⟨b, off, hP, g0, g1⟩ := hk3.ct.sl.at_ q HBL.out; subst hP; rw [HST.out] at g1; have k1 := hk3.tb; have k2 := hk3.ct.box.cell (i := 2) rfl; have hql : (q : Int) < l.length := (by have := HBL.out; omega); have hq0 : (0 : Int) ≤ (q : Int) := (by omega); skip))
      all_goals first
        | (refine bodyPost_ret (results_none rfl _ _ _) rfl ?_
           exact .inl ⟨⟨_, rfl⟩, .inr ⟨j, hlt, hx3⟩⟩)
        | skip
      gi_roundg gp
      case measure => omega
      case rel => exact ⟨j + 1, by have := HGK.out; omega, rfl, hj3⟩
    · obtain rfl : j = p.length := by omega
      rw [stepF_end (Nat.le_refl _)]
      gi_wp2
      go_end0
      exact .inl ⟨⟨_, rfl⟩, .inl hj⟩
end
section
open Go.RowKit
set_option linter.unusedVariables false
set_option maxRecDepth 20000
set_option linter.unusedSimpArgs false
set_option linter.unusedSectionVars false
set_option maxRecDepth 100000
attribute [local go_sem] Oper.semAt_some

theorem OwnG.kept {α : Type} {cs : α → List Value} {e : TypeId} {k : Nat} {w w' : World} {base : Nat} {v : Value} {l : List α} {row : Option Nat} (h : OwnG cs e k w base v l) (hg : w.grownBy w' row) (hne : v.ownBlock = none ∨ v.ownBlock ≠ row) : OwnG cs e k w' base v l := World.ownsRow.kept h hg hne
theorem OwnG.not_loop {α : Type} {cs : α → List Value} {e : TypeId} {k : Nat} {w : World} {base : Nat} {v : Value} {l : List α} (h : OwnG cs e k w base v l) {S : Nat} {o : Obj} (hS : w.heap[S]? = some o) (ho : ∀ c, o ≠ .cells c e (0, 0)) : v.ownBlock = none ∨ v.ownBlock ≠ some S := by
  rcases h.2 with ⟨rfl, _⟩ | ⟨g, cap, cur, rfl, _, hg, _⟩
  · exact .inl rfl
  · refine .inr fun e => ?_
    simp only [Value.ownBlock, Option.some.injEq] at e
    subst e
    rw [hS] at hg
    injection hg with hg
    exact ho _ hg
theorem OwnG.loop {α : Type} {cs : α → List Value} {e : TypeId} {k : Nat} {w : World} {base : Nat} {v : Value} {l : List α} (h : OwnG cs e k w base v l) {S : Nat} {r r' : Loop} (hS : w.heap[S]? = some (.loop r)) : OwnG cs e k (w.putObj S (.loop r')) base v l :=
  h.kept (grownBy_putObj' _ _ _) (h.not_loop hS (fun c e => by cases e))
theorem OwnG.down {α : Type} {cs : α → List Value} {e : TypeId} {k : Nat} {w : World} {base b' : Nat} {v : Value} {l : List α} (h : OwnG cs e k w base v l) (hb : b' ≤ base) : OwnG cs e k w b' v l := by
  refine ⟨h.1, ?_⟩
  rcases h.2 with h0 | ⟨g, cap, cur, h1, h2, h3⟩
  · exact .inl h0
  · exact .inr ⟨g, cap, cur, h1, Nat.le_trans hb h2, h3⟩
theorem range_map_succ {α : Type} (f : Nat → α) (i : Nat) : (List.range (i + 1)).map f = (List.range i).map f ++ [f i] := by rw [List.range_succ, List.map_append]; rfl
set_option maxHeartbeats 4000000 in
theorem appendseq_any (g : Nat) (lb : Array Value) (f : Nat → Int) (N : Nat) (Kp : World → Prop) (hseq : SeqP Tryz.prog g lb (fun i => #[.int .i64 (f i)]) N Kp) (eg : ∀ args w, (callFunc g args).run Tryz.prog w = .ok (.enter g args) w) (hN : N ≤ 100000)
    (w : World) (hK : Kp w) (hKB : ∀ A B, Below w.heap.size A B → Kp A → Kp B) :
    Calls Tryz.prog 85 #[.slice none 0 0, .func (.func g) #[] lb] w fun e w' => (∃ v, e = .returned v ∧ OwnI w' w.heap.size v ((List.range N).map f)) ∧ Ext w w' := by
  refine calls_of_wpAt Tryz.func85 rfl ?_
  simp only [Tryz.ntmps85, List.size_toArray, List.length_cons, List.length_nil, Nat.reduceAdd, Nat.reduceSub, Array.replicate_succ, Array.replicate_zero, List.push_toArray, List.append_toArray, List.nil_append, List.cons_append]
  refine wpAt_seq_k (fun K hK => ?_)
  go_wp2
  obtain ⟨W0, hW0⟩ : ∃ W0, w.alloc (.cells #[.slice none 0 0] 35) = W0 := ⟨_, rfl⟩
  have hx0 : Ext w W0 := hW0 ▸ (Ext.refl w).alloc _
  have hs0 : W0.heap.size = w.heap.size + 1 := by rw [← hW0]; simp
  have hb0 : Boxed W0 w.heap.size 35 (.slice none 0 0) := hW0 ▸ Boxed.new _ _ _
  have hk0 : Kp W0 := hKB _ _ hx0 hK
  try rw [hW0]
  clear hW0
  generalize hcc : w.heap.size = c at *
  have HC := Lib.hid hcc
  clear hcc
  refine wpAt_seq ?_
  refine wpAt_seq_k (fun K hK => ?_)
  go_wp2
  refine wpAt_block ?_
  refine wpAt_rangeFunc2 (hf := Tryz.func85) (gf := g) (lb := lb) rfl eg hseq (fun _ => rfl)
    (fun i W => (∃ v, Boxed W c 35 v ∧ OwnI W (c + 1) v ((List.range i).map f)) ∧ Ext w W ∧ Kp W)
    (fun _ _ _ => False)
    (fun i ch W => False)
    (fun i A B ⟨⟨v, h1, h2⟩, h3, h4⟩ hx => ⟨⟨v, hx.heap h1, h2.ext hx⟩, h3.trans hx, hKB _ _ (Below.mono hx (by have := h3.size; have := HC.out; omega)) h4⟩)
    (fun _ _ _ _ h _ => h)
    (fun i A r r' ⟨⟨v, h1, h2⟩, h3, h4⟩ hl => ⟨⟨v, (World.putObj_heap_other (by omega)).trans h1, h2.loop hl⟩, Upd.ext h3 (grownBy_putObj' _ _ _) (by have := HC.out; omega), hKB _ _ (Below.grown (Below.refl _ _) (grownBy_putObj' _ _ _) (by have := h3.size; have := HC.out; omega) (fun k hk => by cases hk; have := HC.out; omega)) h4⟩)
    (fun _ _ _ _ _ h _ => h)
    (fun i A h => h.2.2)
    ⟨⟨_, hb0, OwnG.nil _ _ _ _ _⟩, hx0, hk0⟩ ?round ?done (fun _ _ _ _ h _ => h.elim) (fun _ _ _ _ h _ => h.elim)
  case round =>
    rintro i W r ⟨⟨v, h1, h2⟩, h3, h4⟩ hW hD hL hi
    gi_wp2
    refine ⟨trivial, trivial, ?_⟩
    rintro W5 r' hW5
    have hL5 : W5.heap[W0.heap.size + 1]? = some (.loop r') := by rw [hW5]; exact World.putObj_heap_same (by omega)
    have hD5 : W5.heap[W0.heap.size]? = some (.deferred (some [])) := by rw [hW5, World.putObj_heap_other (by omega)]; exact hD
    replace h4 : Kp W5 := by rw [hW5]; exact hKB _ _ (Below.grown (Below.refl _ _) (grownBy_putObj' _ _ _) (by have := h3.size; have := HC.out; omega) (fun k hk => by cases hk; have := HC.out; omega)) h4
    replace h2 : OwnI W5 (c + 1) v ((List.range i).map f) := hW5 ▸ h2.loop hL
    replace h1 : Boxed W5 c 35 v := by rw [hW5]; exact (World.putObj_heap_other (by omega)).trans h1
    replace h3 : Ext w W5 := by rw [hW5]; exact Upd.ext h3 (grownBy_putObj' _ _ _) (by have := HC.out; omega)
    have hc5 := h1.cell
    clear hW5 hD hL
    have hsz := h3.size
    obtain ⟨i0, hi0, hz0, hz1, hz2⟩ := int_zero
    have hc5w := h1.lt
    have hsw5 : W5.heap[W0.heap.size + 1]? = some (.loop r') := hL5
    have hDs : W0.heap.size < W5.heap.size := (Array.getElem?_eq_some_iff.1 hD5).1
    have hLs : W0.heap.size + 1 < W5.heap.size := (Array.getElem?_eq_some_iff.1 hL5).1
    have hn1 := h2.not_loop hL5 (fun c e => by cases e)
    have hn2 := h2.not_loop hD5 (fun c e => by cases e)
    have hn3 : v.ownBlock ≠ some c := fun e => by have := h2.base_ c e; omega
    have hrow : (W5.alloc (.cells #[.int .i64 (f i)] 3)).ownsRow (c + 1) 3 1 v i (((List.range i).map f).flatMap fun x => [Value.int .i64 x]) := by
      have := h2.ext ((Ext.refl W5).alloc (.cells #[.int .i64 (f i)] 3))
      unfold OwnG at this
      simpa using this
    gi_wp2_with (gi_at_builtin; refine wpListIn_append_own _ rfl _ _ 35 rfl (c + 1) 3 i0 (.int .i64 0) 1 8 Tryz.underlying35 hi0 hz0 hz1 hz2 rfl (by decide) _ _ _ rfl hrow ⟨W5.heap.size, 0, none⟩ 1 1 [.int .i64 (f i)] rfl rfl (cell_one_new _ _ _) ?s1 ?s2 ?s3 ?s4 ?_)
    case s1 => intro u hu; simp at hu; subst hu; rfl
    case s2 => unfold maxLen; omega
    case s3 => omega
    case s4 => simp; omega
    intro v' w6 hown' hg6 _
    have hb6 : Boxed w6 c 35 v := (h1.alloc _).kept hg6 (fun e => hn3 e.symm)
    have hc6 := hb6.cell
    have hf6 := hb6.frozen
    have hD6 : w6.heap[W0.heap.size]? = some (.deferred (some [])) := (hg6.block _ (by simp; omega) (fun e => by rcases hn2 with h | h <;> rw [← e] at h; cases h; exact h rfl)).trans ((Below.heap_alloc _ _ _ hDs).trans hD5)
    have hL6 : w6.heap[W0.heap.size + 1]? = some (.loop r') := (hg6.block _ (by simp; omega) (fun e => by rcases hn1 with h | h <;> rw [← e] at h; cases h; exact h rfl)).trans ((Below.heap_alloc _ _ _ hLs).trans hL5)
    have hbl : Below (c + 1) W5 w6 := (Below.alloc (Below.refl _ W5) (by omega) _).trans (Below.grown (Below.refl _ _) hg6 (by simp; omega) (fun k hk => h2.base_ k hk))
    have h36 : Ext w w6 := below_ext h3 hbl (by have := HC.out; omega)
    have h46 : Kp w6 := hKB _ _ (Below.mono hbl (by omega)) h4
    have hcs : c < w6.heap.size := hb6.lt
    have h0 : OwnI w6 (c + 1) v' ((List.range (i + 1)).map f) := by
      rw [range_map_succ]
      unfold OwnI OwnG
      simpa using hown'
    obtain ⟨g', cap', rfl, _⟩ := h0.tight (by simp)
    gi_wp2
    refine ⟨?_, ?_, ⟨_, hb6.set _, ?_⟩, h36.setCell (by have := HC.out; simp; omega) _, hKB _ _ (Below.setCell (Below.refl _ _) (by simp) _) h46⟩
    · exact (Below.heap_setCell _ _ _ _ (by simp; omega)).trans (hD6.trans hD5.symm)
    · exact (Below.heap_setCell _ _ _ _ (by simp; omega)).trans (hL6.trans hL5.symm)
    · rw [List.length_map, List.length_range] at h0
      exact h0.kept (row := some c) (Upd.setCell w6 c 0 _) (.inr (fun e => by have := h0.base_ c e; omega))
  case done =>
    rintro W ⟨⟨v, h1, h2⟩, h3, h4⟩ hD
    have hc := h1.cell
    rw [hs0] at hD
    refine wpAt_of_wp ?_
    go_wp2
    refine ⟨by simp, .inl ⟨_, _, rfl, run_takeDeferred hD, ?_⟩⟩
    refine ⟨_, results_tmp rfl _ _ _, ⟨_, rfl, ?_⟩, ?_⟩
    · refine OwnG.down (base := c + 1) (h2.kept (row := some (c + 1)) (grownBy_putObj' _ _ _) (h2.not_loop hD (fun c e => by cases e))) (by have := HC.out; omega)
    · exact Upd.ext h3 (grownBy_putObj' _ _ _) (by have := HC.out; omega)
theorem collect_any (g : Nat) (lb : Array Value) (f : Nat → Int) (N : Nat) (Kp : World → Prop) (hseq : SeqP Tryz.prog g lb (fun i => #[.int .i64 (f i)]) N Kp) (eg : ∀ args w, (callFunc g args).run Tryz.prog w = .ok (.enter g args) w) (hN : N ≤ 100000)
    (w : World) (hK : Kp w) (hKB : ∀ A B, Below w.heap.size A B → Kp A → Kp B) :
    Calls Tryz.prog 51 #[.func (.func g) #[] lb] w fun e w' => (∃ v, e = .returned v ∧ OwnI w' w.heap.size v ((List.range N).map f)) ∧ Ext w w' := by
  have hA := appendseq_any g lb f N Kp hseq eg hN w hK hKB
  go_enter Tryz.func51, Tryz.ntmps51
  go_wp2_with (go_at_call 85; refine hA.mono ?_; rintro e w1 ⟨⟨v, rfl, ho⟩, hx⟩)
  go_ret
  exact ⟨⟨_, rfl, ho⟩, hx⟩
end
end Go.Proofs.YtcbinafokhekmaaGreatDoor

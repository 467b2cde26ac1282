/- ItXI (merged by group.py) -/
import Derived.Test.YtepgpejdnlejnaaDoorQ12
import Derived.Test.YtepgpejdnlejnaaDoorQ02
import Derived.Laws.BytesArg
namespace Go.Proofs.YtepgpejdnlejnaaDoor
section
open Go.RowKit
set_option linter.unusedVariables false
set_option linter.unusedSimpArgs false
set_option linter.unusedSectionVars false
set_option maxRecDepth 100000
attribute [local go_sem] Oper.semAt_some

def csU (c : UInt8) : List Value := [.int .u8 (c.toNat : Int)]
theorem elemU : ElemG csU 108 5 1 1 where
  ht := Tryd.underlying108
  info := by
    obtain ⟨i, h1, h2, h3, h4⟩ := u8_info
    exact ⟨i, _, h1, h2, h3, h4, rfl⟩
  k0 := by omega
  hk := fun _ => rfl
  one := fun x u hu => by
    simp [csU] at hu
    subst hu
    rfl
abbrev OwnU := @OwnG UInt8 csU 5 1
/-- a literal, read -/
theorem SlG.lit {α : Type} {cs : α → List Value} {k : Nat} (hk : ∀ x, (cs x).length = k) {w : World} {t0 : TypeId} {C : Array Value} {b n : Nat} (m : List α) (hC : C = (m.flatMap cs).toArray) (hb : b = w.heap.size) (hn : m.length = n) (hlim : n ≤ 9223372036854775807) : SlG cs (w.alloc (.cells C t0)) (some ⟨b, 0, none⟩) n m := by
  subst hC hb hn
  refine ⟨fun i x hi => ⟨w.heap.size, 0, rfl, fun j u hj => ?_⟩, Nat.le_refl _, hlim⟩
  have h1 := flat_at hk m i j x u hi hj
  rw [hk]
  rw [show (0 : Nat) + i * k + j = i * k + j from by omega]
  exact (World.cell?_alloc_mark _ _ _ _ (i * k + j)).trans (by simpa using h1)
/-- string(b) of a list of bytes of the call's own -/
theorem run_text_own {w W : World} {base : Nat} {v : Value} {l : List UInt8} (h : OwnU w base v l) (hx : Ext w W) : (convert 108 9 v).run Tryd.prog W = .ok (.string ⟨l.toArray⟩) W := by
  have h := h.ext hx
  rcases h.2 with ⟨rfl, h0⟩ | ⟨g, cap, cur, rfl, hb, hg, rest⟩
  · obtain rfl : l = [] := List.length_eq_zero_iff.1 h0
    exact run_convert_bytes_nil W 108 5 Tryd.underlying108 Tryd.underlying5 _ _ _ Tryd.underlying9
  · refine run_convert_bytes_back W 108 9 5 ⟨g, 0, none⟩ cap l Tryd.underlying108 Tryd.underlying5 Tryd.underlying9 (fun j hj => ?_)
    have := OwnG.cell (cs := csU) (n := l.length) (fun _ => rfl) h rfl j l[j] (List.getElem?_eq_getElem hj) 0 (.int .u8 (l[j].toNat : Int)) rfl
    rw [add_flat]
    simpa using this
def quoL (s : ByteArray) : List UInt8 := [34] ++ escA s s.size ++ [34]
set_option maxHeartbeats 4000000 in
theorem quoted_any (s : ByteArray) (w : World) (hs : s.size ≤ 1000) :
    Calls Tryd.prog 103 #[.string s] w fun e w' => e = .returned (.string ⟨(quoL s).toArray⟩) ∧ Ext w w' := by
  go_enter Tryd.func103, Tryd.ntmps103
  go_wp2
  go_loopw [5, 3] (fun i v wr => ∃ k : Nat, k ≤ s.size ∧ i = .int .i64 k ∧ OwnU wr w.heap.size v (escA s k) ∧ Ext w wr) (fun i _ _ => s.size - (intOf i).toNat)
  case atStart => exact ⟨0, by omega, rfl, OwnG.nil _ _ _ _ _, Ext.refl w⟩
  case round =>
    obtain ⟨k, hk, rfl, hown, hx⟩ := hrel
    have hle := escA_le s k
    by_cases hlt : k < s.size
    · have c1 : (k : Int) < s.size := by omega
      have hi := fun W => str_index s k hlt W
      rw [byteU_Nall] at hi
      have d1 : IntKind.i64.wrap ((k : Int) + 1) = (k : Int) + 1 := IntWalk.i64_in _ ⟨by omega, by omega⟩
      have HS := Lib.hid (escA_succ s k)
      obtain ⟨u, hu⟩ : ∃ u, byteU s k = u := ⟨_, rfl⟩
      rw [hu] at hi HS
      obtain ⟨acc, hacc⟩ : ∃ acc, escA s k = acc := ⟨_, rfl⟩
      rw [hacc] at hown hle HS
      have HL := Lib.hid hle
      clear hu hacc hle
      by_cases q1 : u = 34
      · subst q1
        have HE := Lib.hid (show escL 34 = [92, 34] from by decide)
        rw [show (((34 : UInt8).toNat : Nat) : Int) = 34 from rfl] at hi
        go_wp2_with (at_builtin; refine wpList_app_G _ elemU rfl _ _ rfl (base := w.heap.size) (m := [92, 34]) rfl (hown.ext ((Ext.refl _).alloc _)) rfl (SlG.lit (cs := csU) (k := 1) (fun _ => rfl) [92, 34] rfl rfl rfl (by simp)) (fun h => by cases h) ?a1 ?a2 ?a3 ?_)
        case a1 => have := HL.out; first | omega | (simp only [List.length_cons, List.length_nil]; omega)
        case a2 => have := HL.out; first | omega | (simp only [List.length_cons, List.length_nil]; omega)
        case a3 => have := hx.size; simp; omega
        intro v' w' hown' hb'
        rw [← HE.out, ← HS.out] at hown'
        go_wp2
        go_roundw
        case rel => exact ⟨k + 1, by omega, by go_num, hown', below_ext (hx.alloc _) hb' (Nat.le_refl _)⟩
        case measure => simp [intOf]; omega
      · by_cases q2 : u = 92
        · subst q2
          have HE := Lib.hid (show escL 92 = [92, 92] from by decide)
          rw [show (((92 : UInt8).toNat : Nat) : Int) = 92 from rfl] at hi
          clear q1
          go_wp2_with (at_builtin; refine wpList_app_G _ elemU rfl _ _ rfl (base := w.heap.size) (m := [92, 92]) rfl (hown.ext ((Ext.refl _).alloc _)) rfl (SlG.lit (cs := csU) (k := 1) (fun _ => rfl) [92, 92] rfl rfl rfl (by simp)) (fun h => by cases h) ?a1 ?a2 ?a3 ?_)
          case a1 => have := HL.out; first | omega | (simp only [List.length_cons, List.length_nil]; omega)
          case a2 => have := HL.out; first | omega | (simp only [List.length_cons, List.length_nil]; omega)
          case a3 => have := hx.size; simp; omega
          intro v' w' hown' hb'
          rw [← HE.out, ← HS.out] at hown'
          go_wp2
          go_roundw
          case rel => exact ⟨k + 1, by omega, by go_num, hown', below_ext (hx.alloc _) hb' (Nat.le_refl _)⟩
          case measure => simp [intOf]; omega
        · have n34 : ((u.toNat : Int) == 34) = false := by
            rw [beq_eq_false_iff_ne]
            intro e
            have h34 : (34 : UInt8).toNat = 34 := rfl
            exact q1 (UInt8.toNat_inj.1 (by omega))
          have n92 : ((u.toNat : Int) == 92) = false := by
            rw [beq_eq_false_iff_ne]
            intro e
            have h92 : (92 : UInt8).toNat = 92 := rfl
            exact q2 (UInt8.toNat_inj.1 (by omega))
          by_cases q3 : u.toNat < 32 ∨ 126 < u.toNat
          · have HE := Lib.hid (escL_hex q1 q2 q3)
            have h256 : u.toNat < 256 := u.toNat_lt
            have z3 : ∀ W, (Instr.index 9 (.string ⟨#[48, 49, 50, 51, 52, 53, 54, 55, 56, 57, 97, 98, 99, 100, 101, 102]⟩) (.int .u8 ((u.toNat : Int) / 16))).run Tryd.prog W = .ok (.int .u8 ((hexd (u.toNat / 16)).toNat : Int)) W := fun W => by
              have := run_hex (u.toNat / 16) (by omega) W
              rwa [Int.natCast_ediv] at this
            have z4 : ∀ W, (Instr.index 9 (.string ⟨#[48, 49, 50, 51, 52, 53, 54, 55, 56, 57, 97, 98, 99, 100, 101, 102]⟩) (.int .u8 ((u.toNat : Int) % 16))).run Tryd.prog W = .ok (.int .u8 ((hexd (u.toNat % 16)).toNat : Int)) W := fun W => by
              have := run_hex (u.toNat % 16) (by omega) W
              rwa [Int.natCast_emod] at this
            have hc : (u.toNat : Int) < 32 ∨ (¬ (u.toNat : Int) < 32 ∧ (126 : Int) < (u.toNat : Int)) := by omega
            have hw1 : IntKind.u8.wrap ((u.toNat : Int) / 16) = (u.toNat : Int) / 16 := by simp [IntKind.wrap, IntKind.bits, IntKind.signed]; omega
            have hw2 : (u.toNat : Int).tmod 16 = (u.toNat : Int) % 16 := Int.tmod_eq_emod_of_nonneg (by omega)
            generalize hexd (u.toNat / 16) = x1 at *
            generalize hexd (u.toNat % 16) = x2 at *
            clear q1 q2 q3
            rcases hc with hc | ⟨hc0, hc⟩
            · go_wp2
              go_region_law
                (first
                  | (refine step_app_G w elemU ?_ (.tmp 38) (.tmp 47) ?_ u3 acc [92, 120, x1, x2] 4 (some ⟨?_, 0, none⟩) 4 ?_ ?_ rfl ?_ ?_ (fun e => by cases e) ?_ ?_ ?_ ?_
                     · rfl
                     · rfl
                     rotate_left 1
                     · rfl
                     · rfl
                     · exact hown.ext ((Ext.refl _).alloc _).drew
                     · exact (SlG.lit (w := wr) (cs := csU) (k := 1) (fun _ => rfl) [92, 120, x1, x2] rfl rfl rfl (by simp)).ext (Ext.refl _).drew
                     · have := HL.out; omega
                     · have := HL.out; omega
                     · exact (hx.alloc _).drew
                     intro v' w' hown' hx' _; rw [← HE.out, ← HS.out] at hown')
                  | fail)
              all_goals (
                go_wp2
                go_roundw
                case rel => exact ⟨k + 1, by omega, by go_num, hown', hx'⟩
                case measure => simp [intOf]; omega)
            · go_wp2
              go_region_law
                (first
                  | (refine step_app_G w elemU ?_ (.tmp 38) (.tmp 47) ?_ u3 acc [92, 120, x1, x2] 4 (some ⟨?_, 0, none⟩) 4 ?_ ?_ rfl ?_ ?_ (fun e => by cases e) ?_ ?_ ?_ ?_
                     · rfl
                     · rfl
                     rotate_left 1
                     · rfl
                     · rfl
                     · exact hown.ext ((Ext.refl _).alloc _).drew
                     · exact (SlG.lit (w := wr) (cs := csU) (k := 1) (fun _ => rfl) [92, 120, x1, x2] rfl rfl rfl (by simp)).ext (Ext.refl _).drew
                     · have := HL.out; omega
                     · have := HL.out; omega
                     · exact (hx.alloc _).drew
                     intro v' w' hown' hx' _; rw [← HE.out, ← HS.out] at hown')
                  | fail)
              all_goals (
                go_wp2
                go_roundw
                case rel => exact ⟨k + 1, by omega, by go_num, hown', hx'⟩
                case measure => simp [intOf]; omega)
          · have HE := Lib.hid (show escL u = [u] from escL_plain q1 q2 (fun h => q3 (.inl h)) (fun h => q3 (.inr h)))
            have c3 : ¬ (u.toNat : Int) < 32 := by omega
            have c4 : ¬ (126 : Int) < (u.toNat : Int) := by omega
            clear q1 q2 q3
            go_wp2_with (at_builtin; refine wpList_app_G _ elemU rfl _ _ rfl (base := w.heap.size) (m := [u]) rfl (hown.ext ((Ext.refl _).alloc _)) rfl (SlG.lit (cs := csU) (k := 1) (fun _ => rfl) [u] rfl rfl rfl (by simp)) (fun h => by cases h) ?a1 ?a2 ?a3 ?_)
            case a1 => have := HL.out; first | omega | (simp only [List.length_cons, List.length_nil]; omega)
            case a2 => have := HL.out; first | omega | (simp only [List.length_cons, List.length_nil]; omega)
            case a3 => have := hx.size; simp; omega
            intro v' w' hown' hb'
            rw [← HE.out, ← HS.out] at hown'
            go_wp2
            go_roundw
            case rel => exact ⟨k + 1, by omega, by go_num, hown', below_ext (hx.alloc _) hb' (Nat.le_refl _)⟩
            case measure => simp [intOf]; omega
    · obtain rfl : k = s.size := by omega
      have hT := fun W hxx => run_text_own (W := W) hown hxx
      have hT := hT wr (Ext.refl wr)
      obtain ⟨X, hX⟩ : ∃ X : ByteArray, ⟨(escA s s.size).toArray⟩ = X := ⟨_, rfl⟩
      have HR := Lib.hid (show (⟨#[34]⟩ ++ X) ++ ⟨#[34]⟩ = (⟨(quoL s).toArray⟩ : ByteArray) from by
        rw [← hX]
        show (⟨[34].toArray⟩ ++ (⟨(escA s s.size).toArray⟩ : ByteArray)) ++ ⟨[34].toArray⟩ = _
        rw [str_app, str_app]
        rfl)
      have hz : X.size ≤ 4000 := by
        rw [← hX]
        show (escA s s.size).toArray.size ≤ 4000
        simp
        omega
      rw [hX] at hT
      have hl1 : ¬ 9223372036854775807 < 1 + X.size := by omega
      have hl2 : ¬ 9223372036854775807 < 1 + X.size + 1 := by omega
      clear hX hle hown
      go_wp2
      go_ret
      exact ⟨by rw [← HR.out]; rfl, hx⟩
theorem rwritten_any (x : Vl) (w : World) (hx : valB x = true) :
    Calls Tryd.prog 77 #[.agg #[.int .i64 x.1, .int .i64 x.2.1, .string x.2.2]] w fun e w' => e = .returned (.string (wrS x)) ∧ Ext w w' := by
  have hv := valB_in hx
  obtain ⟨k, n, s⟩ := x
  simp only at hv ⊢
  have hx0 := (Ext.refl w).alloc (.cells #[.int .i64 k, .int .i64 n, .string s] 29)
  by_cases hk : k = 1
  · subst hk
    have HW := Lib.hid (show wrS (1, n, s) = ⟨(Lib.itoa n).toArray⟩ from by unfold wrS wrL; rw [if_pos rfl])
    have hD := fun W => rdec_any n hv.1.1 hv.1.2 W
    go_enter Tryd.func77, Tryd.ntmps77
    go_wp2_with (go_at_call 83; refine (hD _).mono ?_; rintro e w1 ⟨rfl, rfl⟩)
    go_ret
    exact ⟨by rw [HW.out]; rfl, hx0⟩
  · have hk1 : (k == 1) = false := by simpa using hk
    have HW := Lib.hid (show wrS (k, n, s) = ⟨(quoL s).toArray⟩ from by unfold wrS wrL; rw [if_neg hk]; rfl)
    have hQ := fun W => quoted_any s W hv.2
    go_enter Tryd.func77, Tryd.ntmps77
    go_wp2_with (go_at_call 103; refine (hQ _).mono ?_; rintro e w1 ⟨rfl, hx1⟩)
    go_ret
    exact ⟨by rw [HW.out]; rfl, hx0.trans hx1⟩
theorem join_snoc (sep x : List UInt8) : ∀ (L : List (List UInt8)), Lib.join (L ++ [x]) sep = if L = [] then x else Lib.join L sep ++ sep ++ x
  | [] => by simp [join1]
  | [a] => by
    show Lib.join [a, x] sep = _
    rw [join2, join1, if_neg (by simp), join1]
  | a :: b :: L => by
    have ih := join_snoc sep x (b :: L)
    rw [if_neg (by simp)] at ih ⊢
    show Lib.join (a :: b :: (L ++ [x])) sep = _
    rw [join2, join2]
    have ih : Lib.join (b :: (L ++ [x])) sep = _ := ih
    rw [ih]
    simp only [List.append_assoc]
/-- a row's first values, written -/
def textK (l : List Vl) (k : Nat) : List UInt8 := Lib.join ((l.take k).map wrL) [44]
theorem textK_succ {l : List Vl} {k : Nat} (hk : k < l.length) : textK l (k + 1) = if k = 0 then wrL (nthV l k) else textK l k ++ [44] ++ wrL (nthV l k) := by
  unfold textK
  rw [List.take_add_one, nthV_some hk, List.map_append]
  simp only [Option.toList_some, List.map_cons, List.map_nil]
  rw [join_snoc]
  by_cases h : k = 0
  · subst h
    simp
  · rw [if_neg h, if_neg]
    intro e
    have := congrArg List.length e
    rw [List.length_map, List.length_take, List.length_nil] at this
    omega
theorem textK_le {l : List Vl} (hall : ∀ x ∈ l, valB x = true) (k : Nat) (hk : k ≤ l.length) : (textK l k).length ≤ k * 201 := by
  have := join_le [44] 200 ((l.take k).map wrL) (by
    intro x hx
    obtain ⟨y, hy, rfl⟩ := List.mem_map.1 hx
    exact wrL_le (hall y (List.mem_of_mem_take hy)))
  rw [List.length_map, List.length_take, Nat.min_eq_left hk] at this
  exact this
set_option maxHeartbeats 4000000 in
theorem rtext_any (P : Option Addr) (cap : Nat) (l : List Vl) (w : World) (h : SlV w P cap l) :
    Calls Tryd.prog 45 #[.slice P l.length cap] w fun e w' => e = .returned (.string ⟨(textL l).toArray⟩) ∧ Ext w w' := by
  have hlen := h.len
  have hR := rrow_any P cap l w h
  cases hr : rowB l with
  | false =>
    have HB := Lib.hid (show textL l = [] from by simp [textL, hr])
    simp only [hr] at hR
    clear hr
    go_enter Tryd.func45, Tryd.ntmps45
    go_wp2_with (go_at_call 19; refine hR.mono ?_; rintro e w1 ⟨rfl, hx1⟩)
    go_ret
    exact ⟨by rw [HB.out]; rfl, hx1⟩
  | true =>
    have HB := Lib.hid (show textL l = textK l l.length from by simp [textL, hr, textK])
    simp only [hr] at hR
    have h8 : l.length ≤ 8 := by unfold rowB at hr; simp at hr; exact hr.2
    have hall : ∀ x ∈ l, valB x = true := by unfold rowB at hr; simp at hr; intro x hx; exact hr.1 _ _ _ hx
    clear hr
    go_enter Tryd.func45, Tryd.ntmps45
    go_wp2_with (go_at_call 19; refine hR.mono ?_; rintro e w1 ⟨rfl, hx1⟩)
    go_loopw [4, 3] (fun i v wr => ∃ k : Nat, k ≤ l.length ∧ i = .int .i64 k ∧ v = .string ⟨(textK l k).toArray⟩ ∧ Ext w wr) (fun i _ _ => l.length - (intOf i).toNat)
    case atStart => exact ⟨0, by omega, rfl, rfl, hx1⟩
    case round =>
      obtain ⟨k, hk, rfl, rfl, hx⟩ := hrel
      by_cases hlt : k < l.length
      · obtain ⟨b, off, hP, g0, g1, g2⟩ := h.valAt k hlt
        subst hP
        have g0 := hx.cell g0
        have g1 := hx.cell g1
        have g2 := hx.cell g2
        have c1 : (k : Int) < l.length := by omega
        have d1 : IntKind.i64.wrap ((k : Int) + 1) = (k : Int) + 1 := IntWalk.i64_in _ ⟨by omega, by omega⟩
        have hv := hall _ (nthV_mem hlt)
        have hW := fun W => rwritten_any (nthV l k) W hv
        have hwl := wrL_le hv
        have hkl := textK_le hall k hk
        have HS := Lib.hid (textK_succ hlt)
        obtain ⟨Y, hY⟩ : ∃ Y, wrS (nthV l k) = Y := ⟨_, rfl⟩
        have hYl : Y = ⟨(wrL (nthV l k)).toArray⟩ := hY.symm
        obtain ⟨X, hX⟩ : ∃ X : ByteArray, ⟨(textK l k).toArray⟩ = X := ⟨_, rfl⟩
        have hXs : X.size ≤ 2000 := by
          rw [← hX]
          show (textK l k).toArray.size ≤ 2000
          simp
          omega
        have hYs : Y.size ≤ 200 := by
          rw [hYl]
          show (wrL (nthV l k)).toArray.size ≤ 200
          simpa using hwl
        rw [hY] at hW
        have HYX := Lib.hid (And.intro hYl hX)
        by_cases hk0 : k = 0
        · have c2 : ¬ (0 : Int) < k := by omega
          have HX0 := Lib.hid (show X = ⟨#[]⟩ from by rw [← hX, hk0]; rfl)
          have hl1 : ¬ 9223372036854775807 < X.size + Y.size := by omega
          have HN := Lib.hid (show (X ++ Y : ByteArray) = ⟨(textK l (k + 1)).toArray⟩ from by
            rw [HS.out, if_pos hk0, HX0.out, hYl]
            show (⟨[].toArray⟩ ++ (⟨(wrL (nthV l k)).toArray⟩ : ByteArray)) = _
            rw [str_app, List.nil_append])
          rw [hX]
          generalize nthV l k = x at *
          clear hX hY hYl hwl hkl hv hall HYX hk0
          go_wp2_with (go_at_call 77; refine (hW _).mono ?_; rintro e w2 ⟨rfl, hx2⟩)
          go_roundw
          case rel => exact ⟨k + 1, by omega, by go_num, by rw [← HN.out], hx.trans hx2⟩
          case measure => simp [intOf]; omega
        · have c2 : (0 : Int) < k := by omega
          have hl1 : ¬ 9223372036854775807 < X.size + 1 := by omega
          have hl2 : ¬ 9223372036854775807 < X.size + 1 + Y.size := by omega
          have HN := Lib.hid (show ((X ++ ⟨#[44]⟩) ++ Y : ByteArray) = ⟨(textK l (k + 1)).toArray⟩ from by
            rw [HS.out, if_neg hk0, ← hX, hYl]
            show (⟨(textK l k).toArray⟩ ++ (⟨[44].toArray⟩ : ByteArray)) ++ _ = _
            rw [str_app, str_app])
          rw [hX]
          generalize nthV l k = x at *
          clear hX hY hYl hwl hkl hv hall HYX
          go_wp2_with (go_at_call 77; refine (hW _).mono ?_; rintro e w2 ⟨rfl, hx2⟩)
          go_roundw
          case rel => exact ⟨k + 1, by omega, by go_num, by rw [← HN.out], hx.trans hx2⟩
          case measure => simp [intOf]; omega
      · obtain rfl : k = l.length := by omega
        go_wp2
        go_ret
        exact ⟨by rw [HB.out]; rfl, hx⟩
end
end Go.Proofs.YtepgpejdnlejnaaDoor

/- ItZD; RangeK; ItZE (merged by group.py) -/
import Derived.Test.YtepgpejdnlejnaaDoorQ20
import Derived.Test.YtepgpejdnlejnaaDoorQ01
import Derived.Test.YtepgpejdnlejnaaDoorShelfC
import Derived.Stop.RegionWithIn
import Derived.Sort.QuietIn
import Derived.Sort.LoopGhostIn
import Derived.StillTailTactics
namespace Go.Proofs.YtepgpejdnlejnaaDoor
section
open Go.RowKit
set_option linter.unusedVariables false
set_option linter.unusedSimpArgs false
set_option linter.unusedSectionVars false
set_option maxRecDepth 100000
attribute [local go_sem] Oper.semAt_some

abbrev intB : ByteArray := ⟨#[105, 110, 116]⟩
abbrev textB : ByteArray := ⟨#[116, 101, 120, 116]⟩
/-- a part's words as the reference reads them -/
def lineB (pw : List ByteArray) : Option It :=
  match pw with
  | [n, k, a, b] => if k = intB ∧ (wholeF a.data.toList).2 = true ∧ (wholeF b.data.toList).2 = true then some (n, 1, (wholeF a.data.toList).1, (wholeF b.data.toList).1, 0) else none
  | [n, k, a] => if k = textB ∧ (wholeF a.data.toList).2 = true then some (n, 2, 0, 0, (wholeF a.data.toList).1) else none
  | _ => none
theorem mkB_eq (k l : List UInt8) : mkB k = mkB l ↔ k = l := ⟨mkB_inj, fun h => by rw [h]⟩
theorem lineRI_B (y : ByteArray) : lineRI y.data.toList = (lineB (cutB 32 y)).map toI := by
  unfold lineRI cutB
  match cutC 32 y.data.toList with
  | [] => rfl
  | [a] => rfl
  | [a, b] => rfl
  | [n, k, a] =>
    show (if k = [116, 101, 120, 116] ∧ (wholeF a).2 = true then some (n, 2, 0, 0, (wholeF a).1) else none) = Option.map toI (if mkB k = textB ∧ (wholeF a).2 = true then some (mkB n, 2, 0, 0, (wholeF a).1) else none)
    by_cases h : k = [116, 101, 120, 116] ∧ (wholeF a).2 = true
    · rw [if_pos h, if_pos ⟨(mkB_eq k [116, 101, 120, 116]).2 h.1, h.2⟩]
      rfl
    · rw [if_neg h, if_neg (fun e => h ⟨(mkB_eq k [116, 101, 120, 116]).1 e.1, e.2⟩)]
      rfl
  | [n, k, a, b] =>
    show (if k = [105, 110, 116] ∧ (wholeF a).2 = true ∧ (wholeF b).2 = true then some (n, 1, (wholeF a).1, (wholeF b).1, 0) else none) = Option.map toI (if mkB k = intB ∧ (wholeF a).2 = true ∧ (wholeF b).2 = true then some (mkB n, 1, (wholeF a).1, (wholeF b).1, 0) else none)
    by_cases h : k = [105, 110, 116] ∧ (wholeF a).2 = true ∧ (wholeF b).2 = true
    · rw [if_pos h, if_pos ⟨(mkB_eq k [105, 110, 116]).2 h.1, h.2⟩]
      rfl
    · rw [if_neg h, if_neg (fun e => h ⟨(mkB_eq k [105, 110, 116]).1 e.1, e.2⟩)]
      rfl
  | a :: b :: c :: d :: e :: r => rfl
theorem join_mem (sep : List UInt8) : ∀ (L : List (List UInt8)) (p : List UInt8), p ∈ L → p.length ≤ (Lib.join L sep).length
  | [], p, h => by simp at h
  | [a], p, h => by
    simp at h
    subst h
    rw [join1]
    exact Nat.le_refl _
  | a :: b :: L, p, h => by
    rw [join2, List.length_append, List.length_append]
    rcases List.mem_cons.1 h with rfl | h
    · omega
    · have := join_mem sep (b :: L) p h
      omega
theorem cutS_mem (t p : List UInt8) (h : p ∈ cutS t) : p.length ≤ t.length := by
  have := join_mem [59, 32] (cutS t) p h
  rw [join_cutS _ t (Nat.le_refl _)] at this
  exact this
/-- what has been read of the parts -/
def RdRel (f : List UInt8 → Option ItP) (ps : List (List UInt8)) (l : List It) (k : Nat) : Prop := k ≤ ps.length ∧ l.length = k ∧ readO f ps = (readO f (ps.drop k)).map fun z => l.map toI ++ z
theorem RdRel.start (f : List UInt8 → Option ItP) (ps : List (List UInt8)) : RdRel f ps [] 0 := ⟨Nat.zero_le _, rfl, by
  rw [List.drop_zero]
  cases readO f ps <;> simp⟩
theorem RdRel.bad {f : List UInt8 → Option ItP} {ps : List (List UInt8)} {l : List It} {k : Nat} {p : List UInt8} (h : RdRel f ps l k) (hp : ps[k]? = some p) (hf : f p = none) : readO f ps = none := by
  obtain ⟨_, _, h3⟩ := h
  obtain ⟨hlt, he⟩ := List.getElem?_eq_some_iff.1 hp
  rw [h3, List.drop_eq_getElem_cons hlt, he, readO, hf]
  rfl
theorem RdRel.more {f : List UInt8 → Option ItP} {ps : List (List UInt8)} {l : List It} {k : Nat} {p : List UInt8} {x : It} (h : RdRel f ps l k) (hp : ps[k]? = some p) (hf : f p = some (toI x)) : RdRel f ps (l ++ [x]) (k + 1) := by
  obtain ⟨_, h2, h3⟩ := h
  obtain ⟨hlt, he⟩ := List.getElem?_eq_some_iff.1 hp
  refine ⟨by omega, by simp [h2], ?_⟩
  rw [h3, List.drop_eq_getElem_cons hlt, he, readO, hf]
  simp only
  cases readO f (ps.drop (k + 1)) <;> simp
theorem RdRel.done {f : List UInt8 → Option ItP} {ps : List (List UInt8)} {l : List It} {k : Nat} (h : RdRel f ps l k) (hk : k = ps.length) : readO f ps = some (l.map toI) := by
  obtain ⟨_, _, h3⟩ := h
  rw [h3, hk, List.drop_length, readO]
  simp
/-- what the reference's ParseItems leaves -/
def RIPost (s : ByteArray) (w : World) (e : Ending) (w' : World) : Prop :=
  Ext w w' ∧ ∃ P c l y, e = .returned (.tuple #[.slice P l.length c, .int .i64 y]) ∧ SlT w' P c l ∧ parseRI itemsP s.data.toList = (l.map toI, y)
theorem RIPost.bad {s : ByteArray} {w w' : World} (hx : Ext w w') (h : parseRI itemsP s.data.toList = ([], 2)) : RIPost s w (.returned (.tuple #[.slice none 0 0, .int .i64 2])) w' :=
  ⟨hx, none, 0, [], 2, rfl, SlG.nil _ _, h⟩
def resI (z : Option (List ItP)) : List ItP × Int := match z with
  | none => ([], 2)
  | some l => if itemsP l = false then ([], 2) else (l, 0)
theorem three_of {α : Type} {l : List α} (h : l.length = 3) : ∃ a b c, l = [a, b, c] := by
  match l, h with
  | [a, b, c], _ => exact ⟨a, b, c, rfl⟩
theorem four_of {α : Type} {l : List α} (h : l.length = 4) : ∃ a b c d, l = [a, b, c, d] := by
  match l, h with
  | [a, b, c, d], _ => exact ⟨a, b, c, d, rfl⟩
theorem lineB_len {pw : List ByteArray} (h3 : pw.length ≠ 3) (h4 : pw.length ≠ 4) : lineB pw = none := by
  match pw, h3, h4 with
  | [], _, _ => rfl
  | [a], _, _ => rfl
  | [a, b], _, _ => rfl
  | [a, b, c], h, _ => simp at h
  | [a, b, c, d], _, h => simp at h
  | a :: b :: c :: d :: e :: r, _, _ => rfl
theorem list_ne {a : ByteArray} {l : List UInt8} (h : ¬ a = mkB l) : (a.toList == l) = false := by
  rw [beq_eq_false_iff_ne]
  intro e
  rw [Lib.toList_data] at e
  exact h (ByteArray.ext (Array.ext' e))
theorem list_is {a : ByteArray} {l : List UInt8} (h : a = mkB l) : (a.toList == l) = true := by
  rw [beq_iff_eq, Lib.toList_data, h]
  rfl
set_option maxHeartbeats 16000000 in
theorem rparseitems_any (s : ByteArray) (w : World) (hs : s.size ≤ 140737488355328) :
    Calls Tryd.prog 53 #[.string s] w (RIPost s w) := by
  have hel : s.data.toList.length = s.size := by simp
  by_cases h20 : 20000 < s.size
  · have c1 : (20000 : Int) < s.size := by omega
    have HP := Lib.hid (show parseRI itemsP s.data.toList = ([], 3) from by unfold parseRI; rw [if_pos (by omega)])
    clear hel
    go_enter Tryd.func53, Tryd.ntmps53
    go_wp2
    go_ret2
    exact ⟨Ext.refl w, none, 0, [], 3, rfl, SlG.nil _ _, HP.out⟩
  · have c1 : ¬ (20000 : Int) < s.size := by omega
    have HPR := Lib.hid (show ∀ z, readO lineRI (cutS s.data.toList) = z → parseRI itemsP s.data.toList = resI z from fun z hz => by
      unfold parseRI resI
      rw [if_neg (by omega), hz]
      rfl)
    have hC := fun W => rcut2_any s (by omega) W
    obtain ⟨ps, hps⟩ : ∃ ps, cutS s.data.toList = ps := ⟨_, rfl⟩
    have hmem : ∀ p ∈ ps, p.length ≤ 20000 := fun p hp => by
      have := cutS_mem s.data.toList p (by rw [hps]; exact hp)
      omega
    have hpl : ps.length ≤ 20001 := by
      have := cutS_len _ s.data.toList (Nat.le_refl _)
      rw [hps] at this
      omega
    have hBe : cutSB s = ps.map mkB := by unfold cutSB; rw [hps]
    rw [hps] at HPR
    rw [hBe] at hC
    obtain ⟨pb, hpb⟩ : ∃ pb, ps.map mkB = pb := ⟨_, rfl⟩
    have hpbl : pb.length = ps.length := by rw [← hpb, List.length_map]
    have hpbg : ∀ (k : Nat) (y : ByteArray), pb[k]? = some y → ps[k]? = some y.data.toList := fun k y hy => by
      rw [← hpb, List.getElem?_map] at hy
      cases hq : ps[k]? with
      | none => rw [hq] at hy; cases hy
      | some p => rw [hq] at hy; injection hy with hy; rw [← hy]; rfl
    rw [hpb] at hC
    have HBL := Lib.hid (And.intro hpbl hpl)
    have HBG := Lib.hid hpbg
    clear hps hBe hpb hpbl hpbg hel hpl
    go_enter Tryd.func53, Tryd.ntmps53
    go_wp2_with (go_at_call 87; refine (hC _).mono ?_; rintro e w1 ⟨v1, rfl, ho1, hx1⟩; obtain ⟨P1, cc1, rfl, hsl1⟩ := OwnG.slG elemS ho1 (by have := HBL.out; omega))
    clear hC ho1
    go_loopw [6, 4, 2, 3] (fun i v _ _ wr => ∃ (k : Nat) (l : List It), RdRel lineRI ps l k ∧ i = .int .i64 k ∧ OwnG It.cells 32 5 wr w1.heap.size v l ∧ Ext w1 wr) (fun i _ _ _ _ => ps.length - (intOf i).toNat)
    case atStart => exact ⟨0, [], RdRel.start _ _, rfl, OwnG.nil _ _ _ _ _, Ext.refl w1⟩
    case round =>
      obtain ⟨k, l, hrel, rfl, hown, hx⟩ := hrel
      have hxw := hx1.trans hx
      obtain ⟨hk0, hlk, _⟩ := id hrel
      have HLK := Lib.hid hlk
      clear hlk
      have d1 : IntKind.i64.wrap ((k : Int) + 1) = (k : Int) + 1 := by
        have := HBL.out
        exact IntWalk.i64_in _ ⟨by omega, by omega⟩
      by_cases hlt : k < ps.length
      · have hkb : k < pb.length := by have := HBL.out; omega
        have c2 : (k : Int) < pb.length := by omega
        obtain ⟨y, hy⟩ : ∃ y, pb[k]? = some y := ⟨pb[k], List.getElem?_eq_getElem hkb⟩
        obtain ⟨b, off, hP, g0⟩ := hsl1.at_ k y hy
        subst hP
        have g0 := hx.cell (g0 0 _ rfl)
        simp only [List.length_cons, List.length_nil, Nat.zero_add, Nat.mul_one, Nat.add_zero] at g0
        have hyp := HBG.out k y hy
        have hys : y.size ≤ 20000 := by
          have := hmem _ (List.mem_of_getElem? hyp)
          have h2 : y.data.toList.length = y.size := by simp
          omega
        have hC2 := fun W => rcut_any y 32 (by omega) W
        have hpz := cutB_size 32 y
        have hpos := cutB_pos 32 y
        have hzz : ∀ z ∈ cutB 32 y, z.size ≤ 20000 := fun z hz => by
          obtain ⟨p, hp, rfl⟩ := List.mem_map.1 hz
          have := cutC_mem 32 _ p hp
          rw [mkB_size]
          have h2 : y.data.toList.length = y.size := by simp
          omega
        have HBAD := Lib.hid (show lineB (cutB 32 y) = none → parseRI itemsP s.data.toList = ([], 2) from fun hb => HPR.out _ (hrel.bad hyp (by rw [lineRI_B, hb]; rfl)))
        have HGO := Lib.hid (show ∀ x, lineB (cutB 32 y) = some x → RdRel lineRI ps (l ++ [x]) (k + 1) from fun x hb => hrel.more hyp (by rw [lineRI_B, hb]; rfl))
        generalize cutB 32 y = pw at *
        have HOW := Lib.hid hown
        clear hrel hyp hy hown hmem
        by_cases h4 : pw.length = 4
        · obtain ⟨z0, z1, z2, z3, rfl⟩ := four_of h4
          have s2 := hzz z2 (by simp)
          have s3 := hzz z3 (by simp)
          clear h4 hpz hpos hzz
          have hW2 := fun W => rwhole_any z2 (by omega) W
          have hW3 := fun W => rwhole_any z3 (by omega) W
          by_cases hk1 : z1 = intB
          · have e1 := list_is (a := z1) (l := [105, 110, 116]) hk1
            cases hf2 : (wholeF z2.data.toList).2 with
            | false =>
              have HR := Lib.hid (HBAD.out (by simp [lineB, hf2]))
              rw [hf2] at hW2
              clear HBAD HGO hf2 hk1
              go_wp2_with (fail)
              go_at_call 87
              refine (hC2 _).mono ?_
              rintro e w6 ⟨v6, rfl, ho6, hx6⟩
              obtain ⟨g6, c6, rfl, hg61, hg62, hg63, hg64⟩ := OwnG.tight ho6 (by simp)
              have y0 := OwnG.cell1 (fun _ => rfl) ho6 rfl 0 z0 (.string z0) rfl rfl
              have y1 := OwnG.cell1 (fun _ => rfl) ho6 rfl 1 z1 (.string z1) rfl rfl
              have y2 := OwnG.cell1 (fun _ => rfl) ho6 rfl 2 z2 (.string z2) rfl rfl
              have y3 := OwnG.cell1 (fun _ => rfl) ho6 rfl 3 z3 (.string z3) rfl rfl
              clear ho6 hC2
              dsimp only
              go_wp2_with (first
                | (go_at_call 88; (with_reducible refine (hW2 _).mono ?_); rintro e w8 ⟨rfl, rfl⟩)
                | (go_at_call 88; (with_reducible refine (hW3 _).mono ?_); rintro e w8 ⟨rfl, rfl⟩))
              all_goals (go_ret2; exact RIPost.bad ((hxw.trans hx6).alloc _) HR.out)
            | true =>
              cases hf3 : (wholeF z3.data.toList).2 with
              | false =>
                have HR := Lib.hid (HBAD.out (by simp [lineB, hf3]))
                rw [hf2] at hW2
                rw [hf3] at hW3
                clear HBAD HGO hf2 hf3 hk1
                go_wp2_with (fail)
                go_at_call 87
                refine (hC2 _).mono ?_
                rintro e w6 ⟨v6, rfl, ho6, hx6⟩
                obtain ⟨g6, c6, rfl, hg61, hg62, hg63, hg64⟩ := OwnG.tight ho6 (by simp)
                have y0 := OwnG.cell1 (fun _ => rfl) ho6 rfl 0 z0 (.string z0) rfl rfl
                have y1 := OwnG.cell1 (fun _ => rfl) ho6 rfl 1 z1 (.string z1) rfl rfl
                have y2 := OwnG.cell1 (fun _ => rfl) ho6 rfl 2 z2 (.string z2) rfl rfl
                have y3 := OwnG.cell1 (fun _ => rfl) ho6 rfl 3 z3 (.string z3) rfl rfl
                clear ho6 hC2
                dsimp only
                go_wp2_with (first
                  | (go_at_call 88; (with_reducible refine (hW2 _).mono ?_); rintro e w8 ⟨rfl, rfl⟩)
                  | (go_at_call 88; (with_reducible refine (hW3 _).mono ?_); rintro e w8 ⟨rfl, rfl⟩))
                all_goals (go_ret2; exact RIPost.bad ((hxw.trans hx6).alloc _) HR.out)
              | true =>
                have HG := Lib.hid (HGO.out (z0, 1, (wholeF z2.data.toList).1, (wholeF z3.data.toList).1, 0) (by simp [lineB, hf2, hf3, hk1]))
                rw [hf2] at hW2
                rw [hf3] at hW3
                generalize (wholeF z2.data.toList).1 = na at *
                generalize (wholeF z3.data.toList).1 = nb at *
                clear HBAD HGO hf2 hf3 hk1
                go_wp2_with (fail)
                go_at_call 87
                refine (hC2 _).mono ?_
                rintro e w6 ⟨v6, rfl, ho6, hx6⟩
                obtain ⟨g6, c6, rfl, hg61, hg62, hg63, hg64⟩ := OwnG.tight ho6 (by simp)
                have y0 := OwnG.cell1 (fun _ => rfl) ho6 rfl 0 z0 (.string z0) rfl rfl
                have y1 := OwnG.cell1 (fun _ => rfl) ho6 rfl 1 z1 (.string z1) rfl rfl
                have y2 := OwnG.cell1 (fun _ => rfl) ho6 rfl 2 z2 (.string z2) rfl rfl
                have y3 := OwnG.cell1 (fun _ => rfl) ho6 rfl 3 z3 (.string z3) rfl rfl
                clear ho6 hC2
                dsimp only
                go_wp2_with (first
                  | (go_at_call 88; (with_reducible refine (hW2 _).mono ?_); rintro e w8 ⟨rfl, rfl⟩)
                  | (go_at_call 88; (with_reducible refine (hW3 _).mono ?_); rintro e w8 ⟨rfl, rfl⟩)
                  | (at_builtin; refine wpList_app_G _ elemT rfl _ _ rfl (base := w1.heap.size) (m := [(z0, 1, na, nb, 0)]) rfl ((HOW.out.ext hx6).ext (((Ext.refl w6).alloc _).alloc _)) rfl (SlG.lit (cs := It.cells) (k := 5) (fun _ => rfl) [(z0, 1, na, nb, 0)] rfl (by simp) rfl (by simp)) (fun h => by cases h) ?a1 ?a2 ?a3 ?_))
                case a1 => have := HLK.out; have := HBL.out; first | omega | (simp only [List.length_cons, List.length_nil]; omega)
                case a2 => have := HLK.out; have := HBL.out; first | omega | (simp only [List.length_cons, List.length_nil]; omega)
                case a3 => have := hx.size; have := hx6.size; simp; omega
                intro v' w' hown' hb'
                obtain ⟨g7, c7, rfl, _, _, _, _⟩ := hown'.tight (by rw [List.length_append]; exact Nat.succ_pos _)
                go_wp2
                go_roundw
                case rel => exact ⟨k + 1, _, HG.out, by go_num, hown', below_ext (((hx.trans hx6).alloc _).alloc _) hb' (Nat.le_refl _)⟩
                case measure => simp [intOf]; omega
          · have e1 := list_ne (a := z1) (l := [105, 110, 116]) hk1
            have HR := Lib.hid (HBAD.out (by simp [lineB, hk1]))
            clear HBAD HGO hk1 hW2 hW3
            go_wp2_with (fail)
            go_at_call 87
            refine (hC2 _).mono ?_
            rintro e w6 ⟨v6, rfl, ho6, hx6⟩
            obtain ⟨g6, c6, rfl, hg61, hg62, hg63, hg64⟩ := OwnG.tight ho6 (by simp)
            have y0 := OwnG.cell1 (fun _ => rfl) ho6 rfl 0 z0 (.string z0) rfl rfl
            have y1 := OwnG.cell1 (fun _ => rfl) ho6 rfl 1 z1 (.string z1) rfl rfl
            have y2 := OwnG.cell1 (fun _ => rfl) ho6 rfl 2 z2 (.string z2) rfl rfl
            have y3 := OwnG.cell1 (fun _ => rfl) ho6 rfl 3 z3 (.string z3) rfl rfl
            clear ho6 hC2
            dsimp only
            go_wp2
            all_goals (go_ret2; exact RIPost.bad ((hxw.trans hx6).alloc _) HR.out)
        · by_cases h3 : pw.length = 3
          · obtain ⟨z0, z1, z2, rfl⟩ := three_of h3
            have s2 := hzz z2 (by simp)
            clear h3 h4 hpz hpos hzz
            have hW2 := fun W => rwhole_any z2 (by omega) W
            by_cases hk1 : z1 = textB
            · have e1 := list_is (a := z1) (l := [116, 101, 120, 116]) hk1
              cases hf2 : (wholeF z2.data.toList).2 with
              | false =>
                have HR := Lib.hid (HBAD.out (by simp [lineB, hf2]))
                rw [hf2] at hW2
                clear HBAD HGO hf2 hk1
                go_wp2_with (fail)
                go_at_call 87
                refine (hC2 _).mono ?_
                rintro e w6 ⟨v6, rfl, ho6, hx6⟩
                obtain ⟨g6, c6, rfl, hg61, hg62, hg63, hg64⟩ := OwnG.tight ho6 (by simp)
                have y0 := OwnG.cell1 (fun _ => rfl) ho6 rfl 0 z0 (.string z0) rfl rfl
                have y1 := OwnG.cell1 (fun _ => rfl) ho6 rfl 1 z1 (.string z1) rfl rfl
                have y2 := OwnG.cell1 (fun _ => rfl) ho6 rfl 2 z2 (.string z2) rfl rfl
                clear ho6 hC2
                dsimp only
                go_wp2_with (go_at_call 88; (with_reducible refine (hW2 _).mono ?_); rintro e w8 ⟨rfl, rfl⟩)
                all_goals (go_ret2; exact RIPost.bad ((hxw.trans hx6).alloc _) HR.out)
              | true =>
                have HG := Lib.hid (HGO.out (z0, 2, 0, 0, (wholeF z2.data.toList).1) (by simp [lineB, hf2, hk1]))
                rw [hf2] at hW2
                generalize (wholeF z2.data.toList).1 = na at *
                clear HBAD HGO hf2 hk1
                go_wp2_with (fail)
                go_at_call 87
                refine (hC2 _).mono ?_
                rintro e w6 ⟨v6, rfl, ho6, hx6⟩
                obtain ⟨g6, c6, rfl, hg61, hg62, hg63, hg64⟩ := OwnG.tight ho6 (by simp)
                have y0 := OwnG.cell1 (fun _ => rfl) ho6 rfl 0 z0 (.string z0) rfl rfl
                have y1 := OwnG.cell1 (fun _ => rfl) ho6 rfl 1 z1 (.string z1) rfl rfl
                have y2 := OwnG.cell1 (fun _ => rfl) ho6 rfl 2 z2 (.string z2) rfl rfl
                clear ho6 hC2
                dsimp only
                go_wp2_with (first
                  | (go_at_call 88; (with_reducible refine (hW2 _).mono ?_); rintro e w8 ⟨rfl, rfl⟩)
                  | (at_builtin; refine wpList_app_G _ elemT rfl _ _ rfl (base := w1.heap.size) (m := [(z0, 2, 0, 0, na)]) rfl ((HOW.out.ext hx6).ext (((Ext.refl w6).alloc _).alloc _)) rfl (SlG.lit (cs := It.cells) (k := 5) (fun _ => rfl) [(z0, 2, 0, 0, na)] rfl (by simp) rfl (by simp)) (fun h => by cases h) ?a1 ?a2 ?a3 ?_))
                case a1 => have := HLK.out; have := HBL.out; first | omega | (simp only [List.length_cons, List.length_nil]; omega)
                case a2 => have := HLK.out; have := HBL.out; first | omega | (simp only [List.length_cons, List.length_nil]; omega)
                case a3 => have := hx.size; have := hx6.size; simp; omega
                intro v' w' hown' hb'
                obtain ⟨g7, c7, rfl, _, _, _, _⟩ := hown'.tight (by rw [List.length_append]; exact Nat.succ_pos _)
                go_wp2
                go_roundw
                case rel => exact ⟨k + 1, _, HG.out, by go_num, hown', below_ext (((hx.trans hx6).alloc _).alloc _) hb' (Nat.le_refl _)⟩
                case measure => simp [intOf]; omega
            · have e1 := list_ne (a := z1) (l := [116, 101, 120, 116]) hk1
              have HR := Lib.hid (HBAD.out (by simp [lineB, hk1]))
              clear HBAD HGO hk1 hW2
              go_wp2_with (fail)
              go_at_call 87
              refine (hC2 _).mono ?_
              rintro e w6 ⟨v6, rfl, ho6, hx6⟩
              obtain ⟨g6, c6, rfl, hg61, hg62, hg63, hg64⟩ := OwnG.tight ho6 (by simp)
              have y0 := OwnG.cell1 (fun _ => rfl) ho6 rfl 0 z0 (.string z0) rfl rfl
              have y1 := OwnG.cell1 (fun _ => rfl) ho6 rfl 1 z1 (.string z1) rfl rfl
              have y2 := OwnG.cell1 (fun _ => rfl) ho6 rfl 2 z2 (.string z2) rfl rfl
              clear ho6 hC2
              dsimp only
              go_wp2
              all_goals (go_ret2; exact RIPost.bad ((hxw.trans hx6).alloc _) HR.out)
          · have HR := Lib.hid (HBAD.out (lineB_len h3 h4))
            have e3 : ((pw.length : Int) == 3) = false := by rw [beq_eq_false_iff_ne]; omega
            have e4 : ((pw.length : Int) == 4) = false := by rw [beq_eq_false_iff_ne]; omega
            have e0 : (0 : Int) < pw.length := by omega
            obtain ⟨z0, hz0⟩ : ∃ z, pw[0]? = some z := ⟨pw[0], List.getElem?_eq_getElem (by omega)⟩
            clear HBAD HGO hzz h3 h4
            go_wp2_with (fail)
            go_at_call 87
            refine (hC2 _).mono ?_
            rintro e w6 ⟨v6, rfl, ho6, hx6⟩
            obtain ⟨g6, c6, rfl, hg61, hg62, hg63, hg64⟩ := OwnG.tight ho6 (by omega)
            have y0 := OwnG.cell1 (fun _ => rfl) ho6 rfl 0 z0 (.string z0) hz0 rfl
            clear ho6 hz0 hC2
            dsimp only
            go_wp2
            all_goals (go_ret2; exact RIPost.bad ((hxw.trans hx6).alloc _) HR.out)
      · obtain rfl : k = ps.length := by omega
        have c2 : ¬ (ps.length : Int) < pb.length := by have := HBL.out; omega
        have HT := Lib.hid (HPR.out _ (hrel.done rfl))
        obtain ⟨PL, cL, rfl, hsl⟩ := OwnG.slG elemT hown (by have := HLK.out; have := HBL.out; omega)
        have hR := ritems_any PL cL l wr hsl
        clear hrel hown
        cases hrb : itemsB l with
        | false =>
          rw [hrb] at hR
          have HP := Lib.hid (show parseRI itemsP s.data.toList = ([], 2) from by
            rw [HT.out]
            show (if itemsP (l.map toI) = false then ([], 2) else (l.map toI, 0)) = (([], 2) : List ItP × Int)
            rw [itemsP_map, hrb, if_pos rfl])
          clear hrb hsl
          go_wp2_with (go_at_call 21; refine hR.mono ?_; rintro e w7 ⟨rfl, hx7⟩)
          go_ret2
          exact RIPost.bad (hxw.trans hx7) HP.out
        | true =>
          rw [hrb] at hR
          have HP := Lib.hid (show parseRI itemsP s.data.toList = (l.map toI, 0) from by
            rw [HT.out]
            show (if itemsP (l.map toI) = false then ([], 2) else (l.map toI, 0)) = ((l.map toI, 0) : List ItP × Int)
            rw [itemsP_map, hrb, if_neg (by simp)])
          clear hrb
          go_wp2_with (go_at_call 21; refine hR.mono ?_; rintro e w7 ⟨rfl, hx7⟩)
          go_ret2
          exact ⟨hxw.trans hx7, PL, cL, l, 0, rfl, hsl.ext hx7, HP.out⟩
end
section
open Go.RowKit
set_option linter.unusedVariables false
set_option linter.unusedSectionVars false
/-- Of an iterator that yields N times and keeps in cell c what is left: ahead of yield i the cell goes from cs i to cs (i + 1). JA: ahead of the store; JB: at the yield. -/
def SeqK (P : Program) (g : Nat) (lb : Array Value) (encs : Nat → Array Value) (N : Nat) (c : Nat) (t : TypeId) (cs : Nat → Value) (K : World → Prop) : Prop :=
  ∀ (l : Nat) (JA JB Jx : Nat → World → Prop) (Jp : Nat → List PanicEntry → World → Prop) (W : World),
    (∀ i A B, JA i A → Ext A B → JA i B) → (∀ i A B, JB i A → Ext A B → JB i B) → (∀ i A B, Jx i A → Ext A B → Jx i B) →
    (∀ i A, JA i A → A.heap[c]? = some (.cells #[cs i] t (0, 0))) → (∀ i A, i < N → JA i A → JB i (A.setCell ⟨c, 0, none⟩ (cs (i + 1)))) → (∀ i A, JA i A → K A) → (∀ i A, JB i A → K A ∧ A.heap[c]? = some (.cells #[cs (i + 1)] t (0, 0))) →
    (∀ i A, JB i A → i < N → YieldAt Fence.wide 0 P l (encs i) A fun e W' =>
      (e = .returned (.bool true) ∧ JA (i + 1) W') ∨ (e = .returned (.bool false) ∧ Jx i W') ∨ ∃ ch, e = .panicked ch ∧ Jp i ch W') →
    JA 0 W →
    CallsIn Fence.wide 0 P g (#[.func (.yield l) #[] #[]] ++ lb) W fun e W' =>
      ((∃ v, e = .returned v) ∧ (JA N W' ∨ ∃ i, i < N ∧ Jx i W')) ∨ ∃ i ch, i < N ∧ e = .panicked ch ∧ Jp i ch W'
section
variable {P : Program} {Q : Exit → Act → World → Prop} {a : Act} {w : World} {f : FuncId}

/-- The statement: a range over a function that has its contract. -/
theorem wpAt_rangeFuncK {g : Operand} {ps : Array Tmp} {assign body : Code} {fn : Func} (hf : P.funcs[f]? = some fn) {gf : Nat} {lb : Array Value}
    (hg : a.eval g = .func (.func gf) #[] lb) (eg : ∀ args w, (callFunc gf args).run P w = .ok (.enter gf args) w)
    {encs : Nat → Array Value} {N c : Nat} {t : TypeId} {cs : Nat → Value} {K : World → Prop} (hseq : SeqK P gf lb encs N c t cs K) (hc : c < w.heap.size) (hps : ∀ i, (encs i).size = ps.size)
    (IA IB : Nat → World → Prop) (Ix : Nat → Code → World → Prop) (Ip : Nat → List PanicEntry → World → Prop)
    (hIe : ∀ i A B, IA i A → Ext A B → IA i B) (hIBe : ∀ i A B, IB i A → Ext A B → IB i B) (hIxe : ∀ i c A B, Ix i c A → Ext A B → Ix i c B)
    (hIu : ∀ i A r r', IA i A → A.heap[w.heap.size + 1]? = some (.loop r) → IA i (A.putObj (w.heap.size + 1) (.loop r'))) (hIxu : ∀ i c A r r', Ix i c A → A.heap[w.heap.size + 1]? = some (.loop r) → Ix i c (A.putObj (w.heap.size + 1) (.loop r')))
    (hIs : ∀ i A, IA i A → A.heap[c]? = some (.cells #[cs i] t (0, 0))) (hIst : ∀ i A, i < N → IA i A → IB i (A.setCell ⟨c, 0, none⟩ (cs (i + 1)))) (hKA : ∀ i A, IA i A → K A) (hKB : ∀ i A, IB i A → K A ∧ A.heap[c]? = some (.cells #[cs (i + 1)] t (0, 0))) (h0 : IA 0 w)
    (hround : ∀ i W r, IB i W → w.heap.size + 2 ≤ W.heap.size → W.heap[w.heap.size]? = some (.deferred (some [])) → W.heap[w.heap.size + 1]? = some (.loop r) → i < N →
      assign.wpIn (Fence.wide.inRound (w.heap.size + 1)) 0 P (Exit.then (fun a' W' => W'.heap[w.heap.size]? = W.heap[w.heap.size]? ∧ W'.heap[w.heap.size + 1]? = W.heap[w.heap.size + 1]? ∧
        ∀ W'' r', W'' = W'.putObj (w.heap.size + 1) (.loop r') → body.wpIn (Fence.wide.inRound (w.heap.size + 1)) 0 P (postP w.heap.size IA Ix Ip i W'') a' W'') (fun _ _ _ => False))
        { tmps := (ps.zip (encs i)).foldl (fun t (p, v) => t.setIfInBounds p v) a.tmps, defers := [] } W)
    (hdone : ∀ W, IA N W → W.heap[w.heap.size]? = some (.deferred (some [])) → Q .normal { a with defers := { target := .collected w.heap.size, args := #[] } :: a.defers } W)
    (hstop : ∀ i c W, i < N → Ix i c W → W.heap[w.heap.size]? = some (.deferred (some [])) → c.wp P Q { a with defers := { target := .collected w.heap.size, args := #[] } :: a.defers } W)
    (hpanic : ∀ i ch W, i < N → Ip i ch W → W.heap[w.heap.size]? = some (.deferred (some [])) → Q (.panic ch) { a with defers := { target := .collected w.heap.size, args := #[] } :: a.defers } W) :
    wpAt f P (Code.rangeFunc g ps assign body) Q a w := by
  intro b k cs hro hb
  obtain ⟨rec, hrec⟩ : ∃ rec : LoopState → Option Code → Loop, rec = fun st pe => { state := st, pending := pe, fn := b.fn, tmps := a.tmps, params := ps, assign, body, defers := w.heap.size } := ⟨_, rfl⟩
  obtain ⟨W1, hW1⟩ : ∃ W1, (w.alloc (.deferred (some []))).alloc (.loop (rec .ready none)) = W1 := ⟨_, rfl⟩
  have hL1 : W1.heap[w.heap.size + 1]? = some (.loop (rec .ready none)) := by
    rw [← hW1]; have := World.alloc_heap_new (w.alloc (.deferred (some []))) (.loop (rec .ready none)); rwa [World.size_alloc] at this
  have hK1 : W1.heap[w.heap.size]? = some (.deferred (some [])) := by
    rw [← hW1]; exact (Below.heap_alloc _ _ _ (by simp)).trans (World.alloc_heap_new w _)
  have hE1 : Ext w W1 := by rw [← hW1]; exact ((Ext.refl w).alloc _).alloc _
  have hI1 : IA 0 W1 := hIe _ _ _ h0 hE1
  have he : (Instr.enterLoop b.fn a.tmps ps assign body b.roundOf).run P w = .ok (w.heap.size + 1, [{ target := .collected w.heap.size, args := #[] }]) W1 := by
    rw [hro, ← hW1, hrec]; exact run_enterLoop_outer _ _ _ _ _
  have hres : (resolve a.eval (rangeCall g (w.heap.size + 1)) 0).run P W1 = .ok { target := .fn (.func gf) lb, args := #[.func (.yield (w.heap.size + 1)) #[] #[]] } W1 := by
    simp only [resolve, hg]
    simp [go_sem]
  have hinv : (invoke (Target.fn (.func gf) lb) #[.func (.yield (w.heap.size + 1)) #[] #[]]).run P W1 = .ok (.enter gf (#[.func (.yield (w.heap.size + 1)) #[] #[]] ++ lb)) W1 := by
    simp [invoke, go_sem, eg]
  have h0' : (lone (b.atR a (.code (.rangeFunc g ps assign body) :: k)) cs w).fenced P Fence.wide :=
    fenced_lone (.inl trivial) (fun _ _ => trivial) (room_wide _)
  have henter := stepR_rangeFunc (P := P) (b := b) (a := a) (k := k) (cs := cs) (w := w) he hres hinv
  have hcall := hseq (w.heap.size + 1)
    (fun i W => IA i W ∧ W.heap[w.heap.size + 1]? = some (.loop (rec .ready none)) ∧ W.heap[w.heap.size]? = some (.deferred (some [])))
    (fun i W => IB i W ∧ W.heap[w.heap.size + 1]? = some (.loop (rec .ready none)) ∧ W.heap[w.heap.size]? = some (.deferred (some [])))
    (fun i W => ∃ c, Ix i c W ∧ W.heap[w.heap.size + 1]? = some (.loop (rec .done (some c))) ∧ W.heap[w.heap.size]? = some (.deferred (some [])))
    (fun i ch W => Ip i ch W ∧ W.heap[w.heap.size]? = some (.deferred (some [])))
    W1
    (fun i A B ⟨h1, h2, h3⟩ hx => ⟨hIe i A B h1 hx, hx.heap h2, hx.heap h3⟩)
    (fun i A B ⟨h1, h2, h3⟩ hx => ⟨hIBe i A B h1 hx, hx.heap h2, hx.heap h3⟩)
    (fun i A B ⟨c, h1, h2, h3⟩ hx => ⟨c, hIxe i c A B h1 hx, hx.heap h2, hx.heap h3⟩)
    (fun i A h => hIs i A h.1)
    (fun i A hi ⟨h1, h2, h3⟩ => ⟨hIst i A hi h1, (Below.heap_setCell A _ _ _ (by show _ ≠ c; omega)).trans h2, (Below.heap_setCell A _ _ _ (by show _ ≠ c; omega)).trans h3⟩)
    (fun i A h => hKA i A h.1) (fun i A h => hKB i A h.1)
    ?_ ⟨hI1, hL1, hK1⟩
  · have hroom : Fence.wide.room ((b.atR { a with defers := [{ target := .collected w.heap.size, args := #[] }] ++ a.defers } (.inRangeFunc (w.heap.size + 1) :: k) :: cs).length + 1 + 0) := room_wide _
    obtain ⟨e, w₃, fr, hR, hsteps, hfn, hleave⟩ := hcall.2 (b.atR { a with defers := [{ target := .collected w.heap.size, args := #[] }] ++ a.defers } (.inRangeFunc (w.heap.size + 1) :: k) :: cs) hroom
    rcases hR with ⟨⟨v, rfl⟩, hR⟩ | ⟨i, ch, hi, rfl, hp, hD⟩
    · have hl : (lone fr (b.atR { a with defers := [{ target := .collected w.heap.size, args := #[] }] ++ a.defers } (.inRangeFunc (w.heap.size + 1) :: k) :: cs) w₃).fenced P Fence.wide := fenced_leaving trivial hroom hleave
      have fin : ∀ (jump : Option Code) (st : LoopState), st ≠ .busy → w₃.heap[w.heap.size + 1]? = some (.loop (rec st jump)) →
          StepsIn (Machine.fenced P Fence.wide) P (lone (b.atR a (.code (.rangeFunc g ps assign body) :: k)) cs w)
            (lone (b.atR { a with defers := [{ target := .collected w.heap.size, args := #[] }] ++ a.defers } ((jump.map Item.code).toList ++ k)) cs (w₃.putObj (w.heap.size + 1) (.loop (rec .exhausted jump)))) := by
        intro jump st hst hl3
        have hend := run_endLoop (P := P) hl3 (by rw [hrec]; exact hst)
        rw [hrec] at hend
        refine .head h0' henter (StepsIn.trans hsteps (.head hl ?_ (.one (fenced_calm (fr := b.atR { a with defers := [{ target := .collected w.heap.size, args := #[] }] ++ a.defers } (.endRangeFunc (w.heap.size + 1) :: k)) trivial (n := 0) (room_wide _) rfl) (stepR_endRangeFunc (by rw [hrec]; exact hend)))))
        rw [← finish_atR_inRangeFunc (w.heap.size + 1) v]; exact step_leave_returned hleave
      rcases hR with ⟨hi, hL, hD⟩ | ⟨i, hlt, c, hi, hL, hD⟩
      · exact ⟨.normal, _, _, hdone _ (hIu _ _ _ _ hi hL) ((World.putObj_heap_other (by omega)).trans hD), fin none _ (by simp) hL⟩
      · obtain ⟨e', a'', w₅, hq, harr⟩ := (wpIn_wide (n := 0)).2 (hstop i c _ hlt (hIxu _ _ _ _ (rec .exhausted (some c)) hi hL) ((World.putObj_heap_other (by omega)).trans hD)) b k cs hro trivial (room_wide _)
        exact ⟨e', a'', w₅, hq, .of_steps (fin (some c) _ (by simp) hL) harr⟩
    · have hl : (lone fr (b.atR { a with defers := [{ target := .collected w.heap.size, args := #[] }] ++ a.defers } (.inRangeFunc (w.heap.size + 1) :: k) :: cs) w₃).fenced P Fence.wide := fenced_leaving trivial hroom hleave
      refine ⟨.panic ch, _, w₃, hpanic i ch w₃ hi hp hD, .inRangeFunc (w.heap.size + 1) :: k, .head h0' henter (StepsIn.trans hsteps (.one hl ?_))⟩
      rw [List.singleton_append, ← Frame.raise_atR]; exact step_leave_panicked hleave
  · rintro i W ⟨hi, hl, hD⟩ hlt
    have hsz : w.heap.size + 1 < W.heap.size := (Array.getElem?_eq_some_iff.1 hl).1
    have hy := run_yield (P := P) (args := encs i) hl (by rw [hrec]; exact hps i)
    rw [hrec] at hy
    refine ⟨b.fn, _, assign, body, hy, roundIn_panics (by rw [hb]; exact hf) (wpIn_mono (hround i W _ hi (by omega) hD hl hlt) ?_)⟩
    rintro e a' W' hp
    cases e with
    | exit id => exact hp.elim
    | goto t => exact hp.elim
    | ret => exact hp.elim
    | panic ch => exact hp.elim
    | outgrown => exact hp.elim
    | normal =>
      obtain ⟨hD', hl', hbody⟩ := hp
      rw [hl] at hl'
      rw [hD] at hD'
      have hsz' : w.heap.size + 1 < W'.heap.size := (Array.getElem?_eq_some_iff.1 hl').1
      refine ⟨_, run_beginRound hl' (by rw [hrec]), wpIn_mono (hbody _ _ rfl) ?_⟩
      have hl2 : (W'.putObj (w.heap.size + 1) (.loop { rec .ready none with state := .busy })).heap[w.heap.size + 1]? = some (.loop { rec .ready none with state := .busy }) := World.putObj_heap_same hsz'
      have hD2 : (W'.putObj (w.heap.size + 1) (.loop { rec .ready none with state := .busy })).heap[w.heap.size]? = some (.deferred (some [])) := (World.putObj_heap_other (by omega)).trans hD'
      generalize W'.putObj (w.heap.size + 1) (.loop { rec .ready none with state := .busy }) = W2 at hl2 hD2
      have fin : ∀ (jump : Option Code) (W3 : World), W3.heap[w.heap.size]? = W2.heap[w.heap.size]? → W3.heap[w.heap.size + 1]? = W2.heap[w.heap.size + 1]? →
          (Instr.endRound (w.heap.size + 1) jump).run P W3 = .ok (.bool jump.isNone) (W3.putObj (w.heap.size + 1) (.loop (rec (if jump.isNone then .ready else .done) jump))) ∧
          (W3.putObj (w.heap.size + 1) (.loop (rec (if jump.isNone then .ready else .done) jump))).heap[w.heap.size + 1]? = some (.loop (rec (if jump.isNone then .ready else .done) jump)) ∧
          (W3.putObj (w.heap.size + 1) (.loop (rec (if jump.isNone then .ready else .done) jump))).heap[w.heap.size]? = some (.deferred (some [])) := fun jump W3 hd3 hl3 => by
        rw [hl2] at hl3
        rw [hD2] at hd3
        have := run_endRound (P := P) jump hl3
        rw [hrec] at this hl3 ⊢
        exact ⟨this, World.putObj_heap_same (Array.getElem?_eq_some_iff.1 hl3).1, (World.putObj_heap_other (by omega)).trans hd3⟩
      rintro e a3 W3 hp
      cases e with
      | normal =>
        obtain ⟨hd3, hk3, hi3⟩ := hp
        obtain ⟨hr, hl4, hk4⟩ := fin none W3 hd3 hk3
        exact ⟨_, _, hr, .inl ⟨rfl, hIu _ _ _ _ hi3 (hk3.trans hl2), hl4, hk4⟩⟩
      | ret =>
        obtain ⟨hd3, hk3, hi3⟩ := hp
        obtain ⟨hr, hl4, hk4⟩ := fin (some .ret) W3 hd3 hk3
        exact ⟨_, _, hr, .inr (.inl ⟨rfl, .ret, hIxu _ _ _ _ _ hi3 (hk3.trans hl2), hl4, hk4⟩)⟩
      | exit id =>
        obtain ⟨hd3, hk3, hi3⟩ := hp
        obtain ⟨hr, hl4, hk4⟩ := fin (some (.exit id)) W3 hd3 hk3
        exact ⟨_, _, hr, .inr (.inl ⟨rfl, .exit id, hIxu _ _ _ _ _ hi3 (hk3.trans hl2), hl4, hk4⟩)⟩
      | goto t =>
        obtain ⟨hd3, hk3, hi3⟩ := hp
        obtain ⟨hr, hl4, hk4⟩ := fin (some (.goto t)) W3 hd3 hk3
        exact ⟨_, _, hr, .inr (.inl ⟨rfl, .goto t, hIxu _ _ _ _ _ hi3 (hk3.trans hl2), hl4, hk4⟩)⟩
      | panic ch =>
        obtain ⟨hd3, ha3, hi3⟩ := hp
        exact ⟨ha3, .inr (.inr ⟨ch, rfl, hi3, by rw [hd3]; exact hD2⟩)⟩
      | outgrown => exact hp.elim
end
end
section
open Go.RowKit
set_option linter.unusedVariables false
set_option linter.unusedSimpArgs false
set_option linter.unusedSectionVars false
set_option maxRecDepth 100000
attribute [local go_sem] Oper.semAt_some

/-- the first "; " of a text: what stands ahead and behind -/
def firstS : List UInt8 → Option (List UInt8 × List UInt8)
  | [] => none
  | x :: r => match x == 59, r with
    | true, 32 :: r' => some ([], r')
    | _, r => (firstS r).map fun z => (x :: z.1, z.2)
theorem firstS_sep (r : List UInt8) : firstS (59 :: 32 :: r) = some ([], r) := by rw [firstS]; rfl
theorem firstS_cons (x : UInt8) (r : List UInt8) (h : ¬ (x = 59 ∧ r.head? = some 32)) : firstS (x :: r) = (firstS r).map fun z => (x :: z.1, z.2) := by
  rw [firstS]
  intro r' h1 h2
  exact h ⟨by simpa using h1, by rw [h2]; rfl⟩
theorem sep_or (x : UInt8) (r : List UInt8) : (∃ r', x :: r = 59 :: 32 :: r') ∨ ¬ (x = 59 ∧ r.head? = some 32) := by
  by_cases h : x = 59 ∧ r.head? = some 32
  · left
    obtain ⟨rfl, h2⟩ := h
    cases r with
    | nil => simp at h2
    | cons y r =>
      simp only [List.head?_cons, Option.some.injEq] at h2
      subst h2
      exact ⟨r, rfl⟩
  · exact .inr h
theorem cut_first : ∀ t : List UInt8, cutS t = match firstS t with
    | none => [t]
    | some (a, r) => a :: cutS r
  | [] => by rw [cutS, firstS]
  | x :: r => by
    rcases sep_or x r with ⟨r', h⟩ | h
    · rw [h, cutS_sep, firstS_sep]
    · rw [cutS_cons x r h, firstS_cons x r h, cut_first r]
      cases hf : firstS r with
      | none => rfl
      | some z => rfl
theorem index_first : ∀ t : List UInt8, Lib.index t [59, 32] = match firstS t with
    | none => -1
    | some (a, _) => (a.length : Int)
  | [] => by rw [firstS]; rfl
  | x :: r => by
    have ih := index_first r
    rcases sep_or x r with ⟨r', h⟩ | h
    · rw [h, firstS_sep]
      rfl
    · rw [firstS_cons x r h]
      have hp : List.isPrefixOf [59, 32] (x :: r) = false := by
        cases r with
        | nil => simp [List.isPrefixOf]
        | cons y r =>
          simp only [List.head?_cons, Option.some.injEq, not_and] at h
          simp only [List.isPrefixOf, Bool.and_true, Bool.and_eq_false_iff, beq_eq_false_iff_ne, ne_eq]
          by_cases h1 : 59 = x
          · exact .inr (fun e => h h1.symm e.symm)
          · exact .inl h1
      rw [Lib.index, hp, ih]
      cases hf : firstS r with
      | none => rfl
      | some z =>
        simp only [Option.map_some]
        rw [if_neg (by simp), if_neg (by
          rw [beq_iff_eq]
          omega)]
        simp
theorem first_app : ∀ {t a r : List UInt8}, firstS t = some (a, r) → t = a ++ 59 :: 32 :: r
  | [], a, r, h => by rw [firstS] at h; cases h
  | x :: q, a, r, h => by
    rcases sep_or x q with ⟨r', e⟩ | e
    · rw [e, firstS_sep] at h
      injection h with h
      injection h with h1 h2
      subst h1 h2
      exact e
    · rw [firstS_cons x q e] at h
      cases hf : firstS q with
      | none => rw [hf] at h; cases h
      | some z =>
        obtain ⟨a', r'⟩ := z
        rw [hf] at h
        injection h with h
        injection h with h1 h2
        subst h1 h2
        rw [first_app hf]
        rfl
/-- what is left at part i -/
def restS (t : List UInt8) : Nat → List UInt8
  | 0 => t
  | i + 1 => match firstS (restS t i) with
    | none => []
    | some (_, r) => r
theorem rest_cut (t : List UInt8) : ∀ i, i < (cutS t).length → cutS (restS t i) = (cutS t).drop i
  | 0, _ => rfl
  | i + 1, h => by
    have ih := rest_cut t i (by omega)
    have hc := cut_first (restS t i)
    cases hf : firstS (restS t i) with
    | none =>
      rw [hf, ih] at hc
      have := congrArg List.length hc
      simp only [List.length_drop, List.length_cons, List.length_nil] at this
      omega
    | some z =>
      obtain ⟨a, r⟩ := z
      rw [hf, ih] at hc
      simp only at hc
      have e : restS t (i + 1) = r := by unfold restS; rw [hf]
      rw [e, ← List.drop_drop, hc]
      rfl
theorem rest_len (t : List UInt8) : ∀ i, (restS t i).length ≤ t.length
  | 0 => Nat.le_refl _
  | i + 1 => by
    have ih := rest_len t i
    unfold restS
    cases hf : firstS (restS t i) with
    | none => simp
    | some z =>
      obtain ⟨a, r⟩ := z
      have := congrArg List.length (first_app hf)
      simp at this ⊢
      omega
/-- part i: the last one, or one ahead of a "; " -/
theorem part_at (t : List UInt8) (i : Nat) (h : i < (cutS t).length) : (firstS (restS t i) = none ∧ i + 1 = (cutS t).length ∧ (cutS t).getD i [] = restS t i) ∨
    ∃ a r, firstS (restS t i) = some (a, r) ∧ i + 1 < (cutS t).length ∧ (cutS t).getD i [] = a ∧ restS t (i + 1) = r := by
  have hr := rest_cut t i h
  have hc := cut_first (restS t i)
  have hg : (cutS t).getD i [] = ((cutS t).drop i).getD 0 [] := by simp [List.getD_eq_getElem?_getD]
  cases hf : firstS (restS t i) with
  | none =>
    rw [hf, hr] at hc
    left
    refine ⟨rfl, ?_, by rw [hg, hc]; rfl⟩
    have := congrArg List.length hc
    simp only [List.length_drop, List.length_cons, List.length_nil] at this
    omega
  | some z =>
    obtain ⟨a, r⟩ := z
    rw [hf, hr] at hc
    simp only at hc
    right
    refine ⟨a, r, rfl, ?_, by rw [hg, hc]; rfl, by show (match firstS (restS t i) with | none => [] | some (_, r) => r) = r; rw [hf]⟩
    have := congrArg List.length hc
    have h2 := cutS_ne r
    have h3 : 0 < (cutS r).length := by
      cases hq : cutS r with
      | nil => exact absurd hq h2
      | cons x l => simp
    simp only [List.length_drop, List.length_cons] at this
    omega
def partV (s : ByteArray) (i : Nat) : Value := .string (mkB ((cutS s.data.toList).getD i []))
/-- what the iterator's cell holds: ahead of yield i what was there at yield i - 1 -/
def leftV (s : ByteArray) : Nat → Value
  | 0 => .string s
  | i + 1 => .string (mkB (restS s.data.toList i))
theorem setCell_same {W : World} {c : Nat} {t : TypeId} {v : Value} (h : Boxed W c t v) : W.setCell ⟨c, 0, none⟩ v = W := by
  have hx : (W.setCell ⟨c, 0, none⟩ v).heap = W.heap := by
    apply Array.ext_getElem?
    intro i
    by_cases hi : i = c
    · subst hi
      exact (h.set v : _ = _).trans h.symm
    · exact Below.heap_setCell W ⟨c, 0, none⟩ v i hi
  have e : W.setCell ⟨c, 0, none⟩ v = { W with heap := (W.setCell ⟨c, 0, none⟩ v).heap } := rfl
  rw [e, hx]
end
end Go.Proofs.YtepgpejdnlejnaaDoor

/- The reference's ParseItems. -/
import Derived.Test.YtepgpejdnlejnaaDoorItZC
import Derived.Test.YtepgpejdnlejnaaDoorTxJ
import Derived.Test.YtepgpejdnlejnaaDoorTxG
namespace Go.Proofs.YtepgpejdnlejnaaDoor
open Go.RowKit
set_option linter.unusedVariables false
set_option linter.unusedSimpArgs false
set_option linter.unusedSectionVars false
set_option maxRecDepth 100000
attribute [local go_sem] Oper.semAt_some

abbrev intB : ByteArray := ⟨#[105, 110, 116]⟩
abbrev textB : ByteArray := ⟨#[116, 101, 120, 116]⟩
/-- a part's words as the reference reads them -/
def lineB (pw : List ByteArray) : Option It :=
  match pw with
  | [n, k, a, b] => if k = intB ∧ (wholeF a.data.toList).2 = true ∧ (wholeF b.data.toList).2 = true then some (n, 1, (wholeF a.data.toList).1, (wholeF b.data.toList).1, 0) else none
  | [n, k, a] => if k = textB ∧ (wholeF a.data.toList).2 = true then some (n, 2, 0, 0, (wholeF a.data.toList).1) else none
  | _ => none
theorem mkB_eq (k l : List UInt8) : mkB k = mkB l ↔ k = l := ⟨mkB_inj, fun h => by rw [h]⟩
theorem lineRI_B (y : ByteArray) : lineRI y.data.toList = (lineB (cutB 32 y)).map toI := by
  unfold lineRI cutB
  match cutC 32 y.data.toList with
  | [] => rfl
  | [a] => rfl
  | [a, b] => rfl
  | [n, k, a] =>
    show (if k = [116, 101, 120, 116] ∧ (wholeF a).2 = true then some (n, 2, 0, 0, (wholeF a).1) else none) = Option.map toI (if mkB k = textB ∧ (wholeF a).2 = true then some (mkB n, 2, 0, 0, (wholeF a).1) else none)
    by_cases h : k = [116, 101, 120, 116] ∧ (wholeF a).2 = true
    · rw [if_pos h, if_pos ⟨(mkB_eq k [116, 101, 120, 116]).2 h.1, h.2⟩]
      rfl
    · rw [if_neg h, if_neg (fun e => h ⟨(mkB_eq k [116, 101, 120, 116]).1 e.1, e.2⟩)]
      rfl
  | [n, k, a, b] =>
    show (if k = [105, 110, 116] ∧ (wholeF a).2 = true ∧ (wholeF b).2 = true then some (n, 1, (wholeF a).1, (wholeF b).1, 0) else none) = Option.map toI (if mkB k = intB ∧ (wholeF a).2 = true ∧ (wholeF b).2 = true then some (mkB n, 1, (wholeF a).1, (wholeF b).1, 0) else none)
    by_cases h : k = [105, 110, 116] ∧ (wholeF a).2 = true ∧ (wholeF b).2 = true
    · rw [if_pos h, if_pos ⟨(mkB_eq k [105, 110, 116]).2 h.1, h.2⟩]
      rfl
    · rw [if_neg h, if_neg (fun e => h ⟨(mkB_eq k [105, 110, 116]).1 e.1, e.2⟩)]
      rfl
  | a :: b :: c :: d :: e :: r => rfl
theorem join_mem (sep : List UInt8) : ∀ (L : List (List UInt8)) (p : List UInt8), p ∈ L → p.length ≤ (Lib.join L sep).length
  | [], p, h => by simp at h
  | [a], p, h => by
    simp at h
    subst h
    rw [join1]
    exact Nat.le_refl _
  | a :: b :: L, p, h => by
    rw [join2, List.length_append, List.length_append]
    rcases List.mem_cons.1 h with rfl | h
    · omega
    · have := join_mem sep (b :: L) p h
      omega
theorem cutS_mem (t p : List UInt8) (h : p ∈ cutS t) : p.length ≤ t.length := by
  have := join_mem [59, 32] (cutS t) p h
  rw [join_cutS _ t (Nat.le_refl _)] at this
  exact this
/-- what has been read of the parts -/
def RdRel (f : List UInt8 → Option ItP) (ps : List (List UInt8)) (l : List It) (k : Nat) : Prop := k ≤ ps.length ∧ l.length = k ∧ readO f ps = (readO f (ps.drop k)).map fun z => l.map toI ++ z
theorem RdRel.start (f : List UInt8 → Option ItP) (ps : List (List UInt8)) : RdRel f ps [] 0 := ⟨Nat.zero_le _, rfl, by
  rw [List.drop_zero]
  cases readO f ps <;> simp⟩
theorem RdRel.bad {f : List UInt8 → Option ItP} {ps : List (List UInt8)} {l : List It} {k : Nat} {p : List UInt8} (h : RdRel f ps l k) (hp : ps[k]? = some p) (hf : f p = none) : readO f ps = none := by
  obtain ⟨_, _, h3⟩ := h
  obtain ⟨hlt, he⟩ := List.getElem?_eq_some_iff.1 hp
  rw [h3, List.drop_eq_getElem_cons hlt, he, readO, hf]
  rfl
theorem RdRel.more {f : List UInt8 → Option ItP} {ps : List (List UInt8)} {l : List It} {k : Nat} {p : List UInt8} {x : It} (h : RdRel f ps l k) (hp : ps[k]? = some p) (hf : f p = some (toI x)) : RdRel f ps (l ++ [x]) (k + 1) := by
  obtain ⟨_, h2, h3⟩ := h
  obtain ⟨hlt, he⟩ := List.getElem?_eq_some_iff.1 hp
  refine ⟨by omega, by simp [h2], ?_⟩
  rw [h3, List.drop_eq_getElem_cons hlt, he, readO, hf]
  simp only
  cases readO f (ps.drop (k + 1)) <;> simp
theorem RdRel.done {f : List UInt8 → Option ItP} {ps : List (List UInt8)} {l : List It} {k : Nat} (h : RdRel f ps l k) (hk : k = ps.length) : readO f ps = some (l.map toI) := by
  obtain ⟨_, _, h3⟩ := h
  rw [h3, hk, List.drop_length, readO]
  simp
/-- what the reference's ParseItems leaves -/
def RIPost (s : ByteArray) (w : World) (e : Ending) (w' : World) : Prop :=
  Ext w w' ∧ ∃ P c l y, e = .returned (.tuple #[.slice P l.length c, .int .i64 y]) ∧ SlT w' P c l ∧ parseRI itemsP s.data.toList = (l.map toI, y)
theorem RIPost.bad {s : ByteArray} {w w' : World} (hx : Ext w w') (h : parseRI itemsP s.data.toList = ([], 2)) : RIPost s w (.returned (.tuple #[.slice none 0 0, .int .i64 2])) w' :=
  ⟨hx, none, 0, [], 2, rfl, SlG.nil _ _, h⟩
def resI (z : Option (List ItP)) : List ItP × Int := match z with
  | none => ([], 2)
  | some l => if itemsP l = false then ([], 2) else (l, 0)
theorem three_of {α : Type} {l : List α} (h : l.length = 3) : ∃ a b c, l = [a, b, c] := by
  match l, h with
  | [a, b, c], _ => exact ⟨a, b, c, rfl⟩
theorem four_of {α : Type} {l : List α} (h : l.length = 4) : ∃ a b c d, l = [a, b, c, d] := by
  match l, h with
  | [a, b, c, d], _ => exact ⟨a, b, c, d, rfl⟩
theorem lineB_len {pw : List ByteArray} (h3 : pw.length ≠ 3) (h4 : pw.length ≠ 4) : lineB pw = none := by
  match pw, h3, h4 with
  | [], _, _ => rfl
  | [a], _, _ => rfl
  | [a, b], _, _ => rfl
  | [a, b, c], h, _ => simp at h
  | [a, b, c, d], _, h => simp at h
  | a :: b :: c :: d :: e :: r, _, _ => rfl
theorem list_ne {a : ByteArray} {l : List UInt8} (h : ¬ a = mkB l) : (a.toList == l) = false := by
  rw [beq_eq_false_iff_ne]
  intro e
  rw [Lib.toList_data] at e
  exact h (ByteArray.ext (Array.ext' e))
theorem list_is {a : ByteArray} {l : List UInt8} (h : a = mkB l) : (a.toList == l) = true := by
  rw [beq_iff_eq, Lib.toList_data, h]
  rfl
set_option maxHeartbeats 16000000 in
theorem rparseitems_any (s : ByteArray) (w : World) (hs : s.size ≤ 140737488355328) :
    Calls Tryd.prog 53 #[.string s] w (RIPost s w) := by
  have hel : s.data.toList.length = s.size := by simp
  by_cases h20 : 20000 < s.size
  · have c1 : (20000 : Int) < s.size := by omega
    have HP := Lib.hid (show parseRI itemsP s.data.toList = ([], 3) from by unfold parseRI; rw [if_pos (by omega)])
    clear hel
    go_enter Tryd.func53, Tryd.ntmps53
    go_wp2
    go_ret2
    exact ⟨Ext.refl w, none, 0, [], 3, rfl, SlG.nil _ _, HP.out⟩
  · have c1 : ¬ (20000 : Int) < s.size := by omega
    have HPR := Lib.hid (show ∀ z, readO lineRI (cutS s.data.toList) = z → parseRI itemsP s.data.toList = resI z from fun z hz => by
      unfold parseRI resI
      rw [if_neg (by omega), hz]
      rfl)
    have hC := fun W => rcut2_any s (by omega) W
    obtain ⟨ps, hps⟩ : ∃ ps, cutS s.data.toList = ps := ⟨_, rfl⟩
    have hmem : ∀ p ∈ ps, p.length ≤ 20000 := fun p hp => by
      have := cutS_mem s.data.toList p (by rw [hps]; exact hp)
      omega
    have hpl : ps.length ≤ 20001 := by
      have := cutS_len _ s.data.toList (Nat.le_refl _)
      rw [hps] at this
      omega
    have hBe : cutSB s = ps.map mkB := by unfold cutSB; rw [hps]
    rw [hps] at HPR
    rw [hBe] at hC
    obtain ⟨pb, hpb⟩ : ∃ pb, ps.map mkB = pb := ⟨_, rfl⟩
    have hpbl : pb.length = ps.length := by rw [← hpb, List.length_map]
    have hpbg : ∀ (k : Nat) (y : ByteArray), pb[k]? = some y → ps[k]? = some y.data.toList := fun k y hy => by
      rw [← hpb, List.getElem?_map] at hy
      cases hq : ps[k]? with
      | none => rw [hq] at hy; cases hy
      | some p => rw [hq] at hy; injection hy with hy; rw [← hy]; rfl
    rw [hpb] at hC
    have HBL := Lib.hid (And.intro hpbl hpl)
    have HBG := Lib.hid hpbg
    clear hps hBe hpb hpbl hpbg hel hpl
    go_enter Tryd.func53, Tryd.ntmps53
    go_wp2_with (go_at_call 87; refine (hC _).mono ?_; rintro e w1 ⟨v1, rfl, ho1, hx1⟩; obtain ⟨P1, cc1, rfl, hsl1⟩ := OwnG.slG elemS ho1 (by have := HBL.out; omega))
    clear hC ho1
    go_loopw [6, 4, 2, 3] (fun i v _ _ wr => ∃ (k : Nat) (l : List It), RdRel lineRI ps l k ∧ i = .int .i64 k ∧ OwnG It.cells 32 5 wr w1.heap.size v l ∧ Ext w1 wr) (fun i _ _ _ _ => ps.length - (intOf i).toNat)
    case atStart => exact ⟨0, [], RdRel.start _ _, rfl, OwnG.nil _ _ _ _ _, Ext.refl w1⟩
    case round =>
      obtain ⟨k, l, hrel, rfl, hown, hx⟩ := hrel
      have hxw := hx1.trans hx
      obtain ⟨hk0, hlk, _⟩ := id hrel
      have HLK := Lib.hid hlk
      clear hlk
      have d1 : IntKind.i64.wrap ((k : Int) + 1) = (k : Int) + 1 := by
        have := HBL.out
        exact IntWalk.i64_in _ ⟨by omega, by omega⟩
      by_cases hlt : k < ps.length
      · have hkb : k < pb.length := by have := HBL.out; omega
        have c2 : (k : Int) < pb.length := by omega
        obtain ⟨y, hy⟩ : ∃ y, pb[k]? = some y := ⟨pb[k], List.getElem?_eq_getElem hkb⟩
        obtain ⟨b, off, hP, g0⟩ := hsl1.at_ k y hy
        subst hP
        have g0 := hx.cell (g0 0 _ rfl)
        simp only [List.length_cons, List.length_nil, Nat.zero_add, Nat.mul_one, Nat.add_zero] at g0
        have hyp := HBG.out k y hy
        have hys : y.size ≤ 20000 := by
          have := hmem _ (List.mem_of_getElem? hyp)
          have h2 : y.data.toList.length = y.size := by simp
          omega
        have hC2 := fun W => rcut_any y 32 (by omega) W
        have hpz := cutB_size 32 y
        have hpos := cutB_pos 32 y
        have hzz : ∀ z ∈ cutB 32 y, z.size ≤ 20000 := fun z hz => by
          obtain ⟨p, hp, rfl⟩ := List.mem_map.1 hz
          have := cutC_mem 32 _ p hp
          rw [mkB_size]
          have h2 : y.data.toList.length = y.size := by simp
          omega
        have HBAD := Lib.hid (show lineB (cutB 32 y) = none → parseRI itemsP s.data.toList = ([], 2) from fun hb => HPR.out _ (hrel.bad hyp (by rw [lineRI_B, hb]; rfl)))
        have HGO := Lib.hid (show ∀ x, lineB (cutB 32 y) = some x → RdRel lineRI ps (l ++ [x]) (k + 1) from fun x hb => hrel.more hyp (by rw [lineRI_B, hb]; rfl))
        generalize cutB 32 y = pw at *
        have HOW := Lib.hid hown
        clear hrel hyp hy hown hmem
        by_cases h4 : pw.length = 4
        · obtain ⟨z0, z1, z2, z3, rfl⟩ := four_of h4
          have s2 := hzz z2 (by simp)
          have s3 := hzz z3 (by simp)
          clear h4 hpz hpos hzz
          have hW2 := fun W => rwhole_any z2 (by omega) W
          have hW3 := fun W => rwhole_any z3 (by omega) W
          by_cases hk1 : z1 = intB
          · have e1 := list_is (a := z1) (l := [105, 110, 116]) hk1
            cases hf2 : (wholeF z2.data.toList).2 with
            | false =>
              have HR := Lib.hid (HBAD.out (by simp [lineB, hf2]))
              rw [hf2] at hW2
              clear HBAD HGO hf2 hk1
              go_wp2_with (fail)
              go_at_call 87
              refine (hC2 _).mono ?_
              rintro e w6 ⟨v6, rfl, ho6, hx6⟩
              obtain ⟨g6, c6, rfl, hg61, hg62, hg63, hg64⟩ := OwnG.tight ho6 (by simp)
              have y0 := OwnG.cell1 (fun _ => rfl) ho6 rfl 0 z0 (.string z0) rfl rfl
              have y1 := OwnG.cell1 (fun _ => rfl) ho6 rfl 1 z1 (.string z1) rfl rfl
              have y2 := OwnG.cell1 (fun _ => rfl) ho6 rfl 2 z2 (.string z2) rfl rfl
              have y3 := OwnG.cell1 (fun _ => rfl) ho6 rfl 3 z3 (.string z3) rfl rfl
              clear ho6 hC2
              dsimp only
              go_wp2_with (first
                | (go_at_call 88; (with_reducible refine (hW2 _).mono ?_); rintro e w8 ⟨rfl, rfl⟩)
                | (go_at_call 88; (with_reducible refine (hW3 _).mono ?_); rintro e w8 ⟨rfl, rfl⟩))
              all_goals (go_ret2; exact RIPost.bad ((hxw.trans hx6).alloc _) HR.out)
            | true =>
              cases hf3 : (wholeF z3.data.toList).2 with
              | false =>
                have HR := Lib.hid (HBAD.out (by simp [lineB, hf3]))
                rw [hf2] at hW2
                rw [hf3] at hW3
                clear HBAD HGO hf2 hf3 hk1
                go_wp2_with (fail)
                go_at_call 87
                refine (hC2 _).mono ?_
                rintro e w6 ⟨v6, rfl, ho6, hx6⟩
                obtain ⟨g6, c6, rfl, hg61, hg62, hg63, hg64⟩ := OwnG.tight ho6 (by simp)
                have y0 := OwnG.cell1 (fun _ => rfl) ho6 rfl 0 z0 (.string z0) rfl rfl
                have y1 := OwnG.cell1 (fun _ => rfl) ho6 rfl 1 z1 (.string z1) rfl rfl
                have y2 := OwnG.cell1 (fun _ => rfl) ho6 rfl 2 z2 (.string z2) rfl rfl
                have y3 := OwnG.cell1 (fun _ => rfl) ho6 rfl 3 z3 (.string z3) rfl rfl
                clear ho6 hC2
                dsimp only
                go_wp2_with (first
                  | (go_at_call 88; (with_reducible refine (hW2 _).mono ?_); rintro e w8 ⟨rfl, rfl⟩)
                  | (go_at_call 88; (with_reducible refine (hW3 _).mono ?_); rintro e w8 ⟨rfl, rfl⟩))
                all_goals (go_ret2; exact RIPost.bad ((hxw.trans hx6).alloc _) HR.out)
              | true =>
                have HG := Lib.hid (HGO.out (z0, 1, (wholeF z2.data.toList).1, (wholeF z3.data.toList).1, 0) (by simp [lineB, hf2, hf3, hk1]))
                rw [hf2] at hW2
                rw [hf3] at hW3
                generalize (wholeF z2.data.toList).1 = na at *
                generalize (wholeF z3.data.toList).1 = nb at *
                clear HBAD HGO hf2 hf3 hk1
                go_wp2_with (fail)
                go_at_call 87
                refine (hC2 _).mono ?_
                rintro e w6 ⟨v6, rfl, ho6, hx6⟩
                obtain ⟨g6, c6, rfl, hg61, hg62, hg63, hg64⟩ := OwnG.tight ho6 (by simp)
                have y0 := OwnG.cell1 (fun _ => rfl) ho6 rfl 0 z0 (.string z0) rfl rfl
                have y1 := OwnG.cell1 (fun _ => rfl) ho6 rfl 1 z1 (.string z1) rfl rfl
                have y2 := OwnG.cell1 (fun _ => rfl) ho6 rfl 2 z2 (.string z2) rfl rfl
                have y3 := OwnG.cell1 (fun _ => rfl) ho6 rfl 3 z3 (.string z3) rfl rfl
                clear ho6 hC2
                dsimp only
                go_wp2_with (first
                  | (go_at_call 88; (with_reducible refine (hW2 _).mono ?_); rintro e w8 ⟨rfl, rfl⟩)
                  | (go_at_call 88; (with_reducible refine (hW3 _).mono ?_); rintro e w8 ⟨rfl, rfl⟩)
                  | (at_builtin; refine wpList_app_G _ elemT rfl _ _ rfl (base := w1.heap.size) (m := [(z0, 1, na, nb, 0)]) rfl ((HOW.out.ext hx6).ext (((Ext.refl w6).alloc _).alloc _)) rfl (SlG.lit (cs := It.cells) (k := 5) (fun _ => rfl) [(z0, 1, na, nb, 0)] rfl (by simp) rfl (by simp)) (fun h => by cases h) ?a1 ?a2 ?a3 ?_))
                case a1 => have := HLK.out; have := HBL.out; first | omega | (simp only [List.length_cons, List.length_nil]; omega)
                case a2 => have := HLK.out; have := HBL.out; first | omega | (simp only [List.length_cons, List.length_nil]; omega)
                case a3 => have := hx.size; have := hx6.size; simp; omega
                intro v' w' hown' hb'
                obtain ⟨g7, c7, rfl, _, _, _, _⟩ := hown'.tight (by rw [List.length_append]; exact Nat.succ_pos _)
                go_wp2
                go_roundw
                case rel => exact ⟨k + 1, _, HG.out, by go_num, hown', below_ext (((hx.trans hx6).alloc _).alloc _) hb' (Nat.le_refl _)⟩
                case measure => simp [intOf]; omega
          · have e1 := list_ne (a := z1) (l := [105, 110, 116]) hk1
            have HR := Lib.hid (HBAD.out (by simp [lineB, hk1]))
            clear HBAD HGO hk1 hW2 hW3
            go_wp2_with (fail)
            go_at_call 87
            refine (hC2 _).mono ?_
            rintro e w6 ⟨v6, rfl, ho6, hx6⟩
            obtain ⟨g6, c6, rfl, hg61, hg62, hg63, hg64⟩ := OwnG.tight ho6 (by simp)
            have y0 := OwnG.cell1 (fun _ => rfl) ho6 rfl 0 z0 (.string z0) rfl rfl
            have y1 := OwnG.cell1 (fun _ => rfl) ho6 rfl 1 z1 (.string z1) rfl rfl
            have y2 := OwnG.cell1 (fun _ => rfl) ho6 rfl 2 z2 (.string z2) rfl rfl
            have y3 := OwnG.cell1 (fun _ => rfl) ho6 rfl 3 z3 (.string z3) rfl rfl
            clear ho6 hC2
            dsimp only
            go_wp2
            all_goals (go_ret2; exact RIPost.bad ((hxw.trans hx6).alloc _) HR.out)
        · by_cases h3 : pw.length = 3
          · obtain ⟨z0, z1, z2, rfl⟩ := three_of h3
            have s2 := hzz z2 (by simp)
            clear h3 h4 hpz hpos hzz
            have hW2 := fun W => rwhole_any z2 (by omega) W
            by_cases hk1 : z1 = textB
            · have e1 := list_is (a := z1) (l := [116, 101, 120, 116]) hk1
              cases hf2 : (wholeF z2.data.toList).2 with
              | false =>
                have HR := Lib.hid (HBAD.out (by simp [lineB, hf2]))
                rw [hf2] at hW2
                clear HBAD HGO hf2 hk1
                go_wp2_with (fail)
                go_at_call 87
                refine (hC2 _).mono ?_
                rintro e w6 ⟨v6, rfl, ho6, hx6⟩
                obtain ⟨g6, c6, rfl, hg61, hg62, hg63, hg64⟩ := OwnG.tight ho6 (by simp)
                have y0 := OwnG.cell1 (fun _ => rfl) ho6 rfl 0 z0 (.string z0) rfl rfl
                have y1 := OwnG.cell1 (fun _ => rfl) ho6 rfl 1 z1 (.string z1) rfl rfl
                have y2 := OwnG.cell1 (fun _ => rfl) ho6 rfl 2 z2 (.string z2) rfl rfl
                clear ho6 hC2
                dsimp only
                go_wp2_with (go_at_call 88; (with_reducible refine (hW2 _).mono ?_); rintro e w8 ⟨rfl, rfl⟩)
                all_goals (go_ret2; exact RIPost.bad ((hxw.trans hx6).alloc _) HR.out)
              | true =>
                have HG := Lib.hid (HGO.out (z0, 2, 0, 0, (wholeF z2.data.toList).1) (by simp [lineB, hf2, hk1]))
                rw [hf2] at hW2
                generalize (wholeF z2.data.toList).1 = na at *
                clear HBAD HGO hf2 hk1
                go_wp2_with (fail)
                go_at_call 87
                refine (hC2 _).mono ?_
                rintro e w6 ⟨v6, rfl, ho6, hx6⟩
                obtain ⟨g6, c6, rfl, hg61, hg62, hg63, hg64⟩ := OwnG.tight ho6 (by simp)
                have y0 := OwnG.cell1 (fun _ => rfl) ho6 rfl 0 z0 (.string z0) rfl rfl
                have y1 := OwnG.cell1 (fun _ => rfl) ho6 rfl 1 z1 (.string z1) rfl rfl
                have y2 := OwnG.cell1 (fun _ => rfl) ho6 rfl 2 z2 (.string z2) rfl rfl
                clear ho6 hC2
                dsimp only
                go_wp2_with (first
                  | (go_at_call 88; (with_reducible refine (hW2 _).mono ?_); rintro e w8 ⟨rfl, rfl⟩)
                  | (at_builtin; refine wpList_app_G _ elemT rfl _ _ rfl (base := w1.heap.size) (m := [(z0, 2, 0, 0, na)]) rfl ((HOW.out.ext hx6).ext (((Ext.refl w6).alloc _).alloc _)) rfl (SlG.lit (cs := It.cells) (k := 5) (fun _ => rfl) [(z0, 2, 0, 0, na)] rfl (by simp) rfl (by simp)) (fun h => by cases h) ?a1 ?a2 ?a3 ?_))
                case a1 => have := HLK.out; have := HBL.out; first | omega | (simp only [List.length_cons, List.length_nil]; omega)
                case a2 => have := HLK.out; have := HBL.out; first | omega | (simp only [List.length_cons, List.length_nil]; omega)
                case a3 => have := hx.size; have := hx6.size; simp; omega
                intro v' w' hown' hb'
                obtain ⟨g7, c7, rfl, _, _, _, _⟩ := hown'.tight (by rw [List.length_append]; exact Nat.succ_pos _)
                go_wp2
                go_roundw
                case rel => exact ⟨k + 1, _, HG.out, by go_num, hown', below_ext (((hx.trans hx6).alloc _).alloc _) hb' (Nat.le_refl _)⟩
                case measure => simp [intOf]; omega
            · have e1 := list_ne (a := z1) (l := [116, 101, 120, 116]) hk1
              have HR := Lib.hid (HBAD.out (by simp [lineB, hk1]))
              clear HBAD HGO hk1 hW2
              go_wp2_with (fail)
              go_at_call 87
              refine (hC2 _).mono ?_
              rintro e w6 ⟨v6, rfl, ho6, hx6⟩
              obtain ⟨g6, c6, rfl, hg61, hg62, hg63, hg64⟩ := OwnG.tight ho6 (by simp)
              have y0 := OwnG.cell1 (fun _ => rfl) ho6 rfl 0 z0 (.string z0) rfl rfl
              have y1 := OwnG.cell1 (fun _ => rfl) ho6 rfl 1 z1 (.string z1) rfl rfl
              have y2 := OwnG.cell1 (fun _ => rfl) ho6 rfl 2 z2 (.string z2) rfl rfl
              clear ho6 hC2
              dsimp only
              go_wp2
              all_goals (go_ret2; exact RIPost.bad ((hxw.trans hx6).alloc _) HR.out)
          · have HR := Lib.hid (HBAD.out (lineB_len h3 h4))
            have e3 : ((pw.length : Int) == 3) = false := by rw [beq_eq_false_iff_ne]; omega
            have e4 : ((pw.length : Int) == 4) = false := by rw [beq_eq_false_iff_ne]; omega
            have e0 : (0 : Int) < pw.length := by omega
            obtain ⟨z0, hz0⟩ : ∃ z, pw[0]? = some z := ⟨pw[0], List.getElem?_eq_getElem (by omega)⟩
            clear HBAD HGO hzz h3 h4
            go_wp2_with (fail)
            go_at_call 87
            refine (hC2 _).mono ?_
            rintro e w6 ⟨v6, rfl, ho6, hx6⟩
            obtain ⟨g6, c6, rfl, hg61, hg62, hg63, hg64⟩ := OwnG.tight ho6 (by omega)
            have y0 := OwnG.cell1 (fun _ => rfl) ho6 rfl 0 z0 (.string z0) hz0 rfl
            clear ho6 hz0 hC2
            dsimp only
            go_wp2
            all_goals (go_ret2; exact RIPost.bad ((hxw.trans hx6).alloc _) HR.out)
      · obtain rfl : k = ps.length := by omega
        have c2 : ¬ (ps.length : Int) < pb.length := by have := HBL.out; omega
        have HT := Lib.hid (HPR.out _ (hrel.done rfl))
        obtain ⟨PL, cL, rfl, hsl⟩ := OwnG.slG elemT hown (by have := HLK.out; have := HBL.out; omega)
        have hR := ritems_any PL cL l wr hsl
        clear hrel hown
        cases hrb : itemsB l with
        | false =>
          rw [hrb] at hR
          have HP := Lib.hid (show parseRI itemsP s.data.toList = ([], 2) from by
            rw [HT.out]
            show (if itemsP (l.map toI) = false then ([], 2) else (l.map toI, 0)) = (([], 2) : List ItP × Int)
            rw [itemsP_map, hrb, if_pos rfl])
          clear hrb hsl
          go_wp2_with (go_at_call 21; refine hR.mono ?_; rintro e w7 ⟨rfl, hx7⟩)
          go_ret2
          exact RIPost.bad (hxw.trans hx7) HP.out
        | true =>
          rw [hrb] at hR
          have HP := Lib.hid (show parseRI itemsP s.data.toList = (l.map toI, 0) from by
            rw [HT.out]
            show (if itemsP (l.map toI) = false then ([], 2) else (l.map toI, 0)) = ((l.map toI, 0) : List ItP × Int)
            rw [itemsP_map, hrb, if_neg (by simp)])
          clear hrb
          go_wp2_with (go_at_call 21; refine hR.mono ?_; rintro e w7 ⟨rfl, hx7⟩)
          go_ret2
          exact ⟨hxw.trans hx7, PL, cL, l, 0, rfl, hsl.ext hx7, HP.out⟩
end Go.Proofs.YtepgpejdnlejnaaDoor

/- CaK (merged by group.py) -/
import Derived.Test.YtcbinafokhekmaaGreatDoorQ08
import Derived.StillTailTactics
import Derived.Deep.LoopGhost
namespace Go.Proofs.YtcbinafokhekmaaGreatDoor
section
open Go.RowKit
set_option linter.unusedVariables false
set_option linter.unusedSimpArgs false
set_option linter.unusedSectionVars false
set_option maxRecDepth 100000
attribute [local go_sem] Oper.semAt_some

/-- a table of the reference's that was made: its value, its buckets -/
def TabPost (FF : Nat → Prop) (h r : Nat) (T : List (Bkt Hd)) (w : World) (e : Ending) (w' : World) : Prop := ∃ v l', e = .returned (.agg #[.int .i64 h, .int .i64 r, v]) ∧ NewB w' w.heap.size v l' ∧ absT l' = T ∧ (∀ x ∈ l', OffH FF x.1.1 x.1.2.2) ∧ Ext w w'
set_option maxHeartbeats 8000000 in
theorem rwith_any (FF : Nat → Prop) (h r k : Nat) (P : Option Addr) (c : Nat) (l : List BkR) (p : List Nat) (Q : Option Addr) (d : Nat) (m : List HdR) (w : World) (hs : SlB w P c l) (hm : SlH w Q d m) (hw : Way (absT l) (k : Int) p) (hp0 : 0 < p.length) (hp1 : p.length ≤ 501) (hr1 : 1 ≤ r) (hr2 : r ≤ 20) (hh : h ≤ l.length) (hl : l.length ≤ 1000) (he : ∀ x ∈ l, x.1.2.2.length ≤ 100000) (hm1 : m.length ≤ 1000) (hFF : ∀ i, FF i → i < w.heap.size) (hlF : ∀ x ∈ l, ∀ z ∈ x.1.2.2, Off FF z.1.1 z.1.2.2) (hmF : ∀ z ∈ m, Off FF z.1.1 z.1.2.2) :
    Calls Tryz.prog 77 #[Tb h r P l.length c, .int .i64 k, .slice Q m.length d] w (TabPost FF h r (withF h r (absT l) p (m.map hdA)) w) := by
  unfold Tb
  have hx1 := (Ext.refl w).alloc (.cells #[.int .i64 h, .int .i64 r, .slice P l.length c] 28)
  have hx2 := hx1.alloc (.cells #[.int .i64 0, .int .i64 0, .slice none 0 0] 28)
  have hA := (BoxN.new w 28 #[.int .i64 h, .int .i64 r, .slice P l.length c]).ext ((Ext.refl _).alloc (.cells #[.int .i64 0, .int .i64 0, .slice none 0 0] 28))
  have hB := BoxN.new (w.alloc (.cells #[.int .i64 h, .int .i64 r, .slice P l.length c] 28)) 28 #[.int .i64 0, .int .i64 0, .slice none 0 0]
  rw [show (w.alloc (.cells #[.int .i64 h, .int .i64 r, .slice P l.length c] 28)).heap.size = w.heap.size + 1 from by simp] at hB
  have hsz : w.heap.size + 2 ≤ ((w.alloc (.cells #[.int .i64 h, .int .i64 r, .slice P l.length c] 28)).alloc (.cells #[.int .i64 0, .int .i64 0, .slice none 0 0] 28)).heap.size := by simp
  have hC := rcopy_any h r P c l _ (hs.ext hx2) (by omega) he
  unfold Tb at hC
  have hm2 := hm.ext hx2
  have HSO := Lib.hid (show ∀ (W' : World) (l' : List BkR), Cop W' l l' → ∀ x ∈ l', OffH (fun i => w.heap.size ≤ i ∧ i < W'.heap.size) x.1.1 x.1.2.2 from fun W' l' q => q.off hs)
  have HMO := Lib.hid hm.lt
  have HFF := Lib.hid hFF
  have HMF := Lib.hid hmF
  have HFC := Lib.hid (show ∀ (W' : World) (l' : List BkR), Cop W' l l' → w.heap.size ≤ W'.heap.size → ∀ x ∈ l', OffH FF x.1.1 x.1.2.2 from fun W' l' q hle x hx => by
    obtain ⟨h1, y, hy, e⟩ := q x hx
    exact ⟨h1.mono (fun i hi => by have := hFF i hi; omega), fun z hz => hlF y hy z (e ▸ hz)⟩)
  clear hFF hlF hmF
  have HW := Lib.hid hw
  clear hx1 hs hm he hw
  go_enter Tryz.func77, Tryz.ntmps77
  go_wp2_with (fail)
  generalize ((w.alloc (.cells #[.int .i64 h, .int .i64 r, .slice P l.length c] 28)).alloc (.cells #[.int .i64 0, .int .i64 0, .slice none 0 0] 28)) = W at *
  go_at_call 107
  refine hC.mono ?_
  rintro e w1 ⟨⟨v, l1, rfl, hab, hN, hcop⟩, hx⟩
  have HSX := Lib.hid (HSO.out _ _ hcop)
  have HFX := Lib.hid (HFC.out _ _ hcop (by omega))
  have hln : l1.length = l.length := by have := congrArg List.length hab; rwa [absT_len, absT_len] at this
  obtain ⟨P1, c1, rfl, _⟩ := hN.sl (by omega)
  dsimp only
  have hA1 := hA.ext hx
  have f0 := hA1.frozen 0
  have f1 := hA1.frozen 1
  have f2 := hA1.frozen 2
  have a0 := hA1.cell (i := 0) rfl
  have a1 := hA1.cell (i := 1) rfl
  have a2 := hA1.cell (i := 2) rfl
  have hA2 : BoxN _ w.heap.size 28 #[.int .i64 h, .int .i64 r, .slice P1 l1.length c1] := (((hA1.set 0 (.int .i64 h)).set 1 (.int .i64 r)).set 2 (.slice P1 l1.length c1))
  have hB2 := (((hB.ext hx).far (p := ⟨w.heap.size, 0, none⟩) (by simp) (.int .i64 h)).far (p := ⟨w.heap.size, 1, none⟩) (by simp) (.int .i64 r)).far (p := ⟨w.heap.size, 2, none⟩) (by simp) (.slice P1 l1.length c1)
  have hu := (((UpdF.refl (fun i => w.heap.size ≤ i ∧ i < W.heap.size) w1).setCell (p := ⟨w.heap.size, 0, none⟩) (.inl ⟨by simp, by simp; omega⟩) (.int .i64 h)).setCell (p := ⟨w.heap.size, 1, none⟩) (.inl ⟨by simp, by simp; omega⟩) (.int .i64 r)).setCell (p := ⟨w.heap.size, 2, none⟩) (.inl ⟨by simp, by simp; omega⟩) (.slice P1 l1.length c1)
  have hN2 := hN.upd hu (fun g hg hf => by have := (own_lt hN.own hg).1; omega) (HSO.out _ _ hcop)
  have hxw := hu.ext (hx2.trans hx) (fun i hi => hi.1)
  have hm3 := (hm2.ext hx).upd hu (HMO.out.mono (fun i hi => hi.1))
  have hszw := hu.size
  have hw1 : Way (absT l1) (k : Int) p := by rw [hab]; exact HW.out
  have HAB := Lib.hid hab
  have HLN := Lib.hid hln
  clear hab hln hC HW hcop hA hB hA1 hm2
  go_wp2_with (fail)
  generalize (((w1.setCell ⟨w.heap.size, 0, none⟩ (.int .i64 h)).setCell ⟨w.heap.size, 1, none⟩ (.int .i64 r)).setCell ⟨w.heap.size, 2, none⟩ (.slice P1 l1.length c1)) = X0 at *
  clear f0 f1 f2 a0 a1 a2 hu
  obtain ⟨P1', c1', e1, hsl⟩ := hN2.sl (by have := HLN.out; omega)
  injection e1 with e1 _ e2
  subst e1 e2
  have hPP := rpath_any h r P1 c1 l1 k p X0 hsl hw1 (by omega)
  unfold Tb at hPP
  go_at_call 53
  refine hPP.mono ?_
  rintro e X1 ⟨⟨vp, rfl, hop⟩, hx3⟩
  dsimp only
  have hA3 := hA2.ext hx3
  have a0 := hA3.cell (i := 0) rfl
  have a1 := hA3.cell (i := 1) rfl
  have hr0 : (r : Int) ≠ 0 := by omega
  have hrr : (1 : Int) ≤ r := by omega
  have hrr2 : (r : Int) ≤ 20 := by omega
  obtain ⟨Pp, cp, rfl, _⟩ := hop.slG elemI (by rw [ints_len]; omega)
  rw [ints_len]
  clear hPP
  have hneed : max 1 (((m.length : Int) + r - 1) / r) = ((needC r m.length : Nat) : Int) := by
    have e1 : ((m.length + r - 1 : Nat) : Int) = (m.length : Int) + r - 1 := by omega
    rw [← e1, ← Int.natCast_ediv]
    unfold needC
    generalize (m.length + r - 1) / r = z
    omega
  have I0 : WI FF w X1 h r Q d m (absT l) p (.slice Pp p.length cp) l1 P1 c1 := by
    have hgg : ∀ g, (Value.slice Pp (ints p).length cp).ownBlock = some g → X0.heap.size ≤ g := fun g hg => (own_lt hop hg).1
    rw [ints_len] at hgg
    refine ⟨HAB.out, (hN2.ext hx3).lower (by omega), hA3, hB2.ext hx3, ?_, fun g hg => ⟨fun a ha e => ?_, fun x hx => ?_⟩, fun x hx => ?_, hm3.ext hx3, HMO.out, hxw.trans hx3⟩
    · rw [ints_len] at hop
      exact OwnG.lower hop (by have := hx.size; omega)
    · have h1 := hgg g hg
      have h2 := (own_lt hN2.own (own_of ha)).2
      omega
    · exact (hN2.ent x hx).lt.mono (fun i hi => by subst hi; exact hgg _ hg)
    · exact ((HSX.out x hx).or (HFX.out x hx)).mono (fun i hi => hi.elim (fun hi => .inl (by omega)) .inr)
  have hT0 : h ≤ (absT l).length := by rw [absT_len]; exact hh
  have hin0 : Within (absT l) p := by
    have := way_lt hw1
    rw [HAB.out] at this
    exact this
  have HG := fun j => Lib.hid (growF_in (h := h) j hT0 hin0)
  have HGL := fun j => Lib.hid (growF_len h j (absT l) p)
  have HTL := Lib.hid (show (absT l).length ≤ 1000 from by rw [absT_len]; exact hl)
  have HNB := Lib.hid (show needC r m.length ≤ 1001 from by have := need_le_max r m.length hr1; omega)
  go_wp2_with (fail)
  clear a0 a1 hneed hA2 hB2 hA3 hN2 hsl hm3 hx3 hxw hop hr0 hrr hrr2 hw1 hT0 hin0 HAB HLN HSX HSO HFX HFC hx hx2 hsz hszw
  generalize hT : absT l = T0 at *
  generalize hN0 : needC r m.length = N at *
  go_loopg [7] (N - p.length) (fun gk v wr => ∃ (j : Nat) (raw : List BkR) (P' : Option Addr) (c' : Nat) (Pv : Option Addr) (cv : Nat), gk + j = N - p.length ∧ v = .slice Pv (growF h j T0 p).2.length cv ∧ WI FF w wr h r Q d m (growF h j T0 p).1 (growF h j T0 p).2 (.slice Pv (growF h j T0 p).2.length cv) raw P' c')
  case atStart => exact ⟨0, l1, P1, c1, Pp, cp, by omega, rfl, I0⟩
  case round =>
    obtain ⟨j, raw, P2, c2, Pv, cv, hk, rfl, I⟩ := hrel
    have hgj := HG j
    have hrl := I.len
    obtain ⟨a0, a1, a2, f2⟩ := I.cells
    have hql0 := (HGL j).out
    by_cases hlt : p.length + j < N
    · have c1 : ((growF h j T0 p).2.length : Int) < N := by omega
      have hqN : (growF h j T0 p).2.length ≤ 3000 := by have := HNB.out; omega
      clear hql0
      obtain ⟨gp, rfl⟩ : ∃ gp, gk = gp + 1 := ⟨gk - 1, by omega⟩
      have HGK := Lib.hid hk
      have HSN := Lib.hid (growF_snoc h j T0 p)
      have hql := (HGL j).out
      have hgo := hgj.out
      have hTb : (growF h j T0 p).1.length ≤ 3000 := by have := HTL.out; have := HNB.out; omega
      clear hk hgj
      generalize (growF h j T0 p).1 = T at *
      generalize (growF h j T0 p).2 = q at *
      obtain ⟨hhT, hinT, _⟩ := hgo
      have hrl2 : raw.length ≤ 3000 := by omega
      have hrl3 : h ≤ raw.length := by omega
      have HFR := Lib.hid (freeF_is hhT)
      have HIN := Lib.hid hinT
      have HRL := Lib.hid hrl
      have HQL := Lib.hid hql
      have HLD := fun (i : Nat) W (hs : SlB W P2 c2 raw) => rled_any h r P2 c2 raw i W hs
      have HAT := Lib.hid I.abs
      unfold Tb at HLD
      clear hrl hql hhT hinT hTb
      go_wp2_with (fail)
      clear a0 a1 a2 f2
      obtain ⟨wo, hwo⟩ : ∃ wo : World, wo = wr := ⟨_, rfl⟩
      go_loopw [10, 9] (fun a b wr2 => ∃ i : Nat, h ≤ i ∧ i ≤ raw.length ∧ a = .int .i64 i ∧ ((b = .int .i64 (-1) ∧ ∀ y, h ≤ y → y < i → ledB T y = true) ∨ (b = .int .i64 (freeF h T : Nat) ∧ freeF h T < raw.length)) ∧ WI FF w wr2 h r Q d m T q (.slice Pv q.length cv) raw P2 c2) (fun a _ _ => raw.length - (intOf a).toNat)
      case atStart => exact ⟨h, Nat.le_refl _, hrl3, rfl, .inl ⟨rfl, fun y h1 h2 => by omega⟩, I⟩
      case round =>
        obtain ⟨i, hi1, hi2, rfl, hb, I⟩ := hrel
        obtain ⟨a0, a1, a2, f2⟩ := I.cells
        rcases hb with ⟨rfl, hall⟩ | ⟨rfl, hfl⟩
        · by_cases hlt2 : i < raw.length
          · have c2' : (i : Int) < raw.length := by omega
            have hss := I.n.slP (by omega)
            have d1 : IntKind.i64.wrap ((i : Int) + 1) = (i : Int) + 1 := IntWalk.i64_in _ ⟨by omega, by omega⟩
            have hLi := HLD i wr hss
            rw [HAT.out] at hLi
            have HAL := Lib.hid hall
            clear hall
            cases hled : ledB T i with
            | true =>
              rw [hled] at hLi
              have HE := Lib.hid hled
              clear hled
              go_wp2_with (go_at_call 108; refine hLi.mono ?_; rintro e w4 ⟨rfl, hx4⟩)
              go_roundw
              case rel => exact ⟨i + 1, by omega, by omega, by go_num, .inl ⟨rfl, fun y h1 h2 => by
                by_cases e : y = i
                · subst e; exact HE.out
                · exact HAL.out y h1 (by omega)⟩, I.ext_ hx4⟩
              case measure => simp [intOf]; omega
            | false =>
              rw [hled] at hLi
              have hff : freeF h T = i := HFR.out.uniq ⟨hi1, by have := HRL.out; omega, HAL.out, fun _ => hled⟩
              have HFF := Lib.hid hff
              clear hled hff
              go_wp2_with (go_at_call 108; refine hLi.mono ?_; rintro e w4 ⟨rfl, hx4⟩)
              go_roundw
              case rel => exact ⟨i + 1, by omega, by omega, by go_num, .inr ⟨by rw [HFF.out], by rw [HFF.out]; exact hlt2⟩, I.ext_ hx4⟩
              case measure => simp [intOf]; omega
          · obtain rfl : i = raw.length := by omega
            have hff : freeF h T = raw.length := HFR.out.uniq ⟨hi1, by have := HRL.out; omega, hall, fun e => by have := HRL.out; omega⟩
            have hroom : roomF T (freeF h T) = T ++ [([], -1)] := by unfold roomF; rw [if_pos (by rw [hff]; exact HRL.out)]
            rw [hroom, hff] at HSN
            have I1 := I.ext_ ((Ext.refl wr).alloc (.cells #[.slice none 0 0, .int .i64 (-1)] 54))
            have HI1 := Lib.hid I1
            clear hall hff hroom HFR I1
            go_wp2_with (at_builtin; refine wpList_app_U _ elemBk rfl _ _ rfl (base := w.heap.size + 2) rfl HI1.out.n.own (m := [((none, 0, []), -1)]) rfl (SlG.one elemBk.hk _ ?d1 ?d2) ?d3 ?d4 ?d5 ?d6 ?_)
            all_goals first
              | rfl
              | (intro e; cases e; done)
              | (simp; done)
              | (simp; omega; done)
              | (have := BoxN.lt I.res; simp; omega; done)
              | skip
            intro v7 w7 ho7 hg7 hb7 hob7
            obtain ⟨P7, c7, rfl, e7, f7, I7⟩ := HI1.out.room ho7 hg7 (by simpa using hob7) (by omega)
            have HI7 := Lib.hid I7
            clear ho7 hg7 hb7 hob7 I7 a0 a1 a2 f2 HI1
            go_wp2_with (fail)
            obtain ⟨raw2, hraw2⟩ : ∃ z, raw ++ [((none, 0, []), -1)] = z := ⟨_, rfl⟩
            rw [hraw2] at HI7
            have HL2 := Lib.hid (show raw2.length = T.length + 1 from by rw [← hraw2]; rw [List.length_append]; have := HRL.out; simp; omega)
            have HT2 := Lib.hid (show T.length ≤ 3000 from by have := HRL.out; omega)
            clear hraw2
            generalize (w7.setCell ⟨w.heap.size, 2, none⟩ (.slice P7 (raw.length + 1) c7)) = X at *
            obtain ⟨n1, hn1⟩ : ∃ n1, q.length = n1 + 1 := ⟨q.length - 1, by have := HQL.out; omega⟩
            have HN1 := Lib.hid hn1
            have hlm : q.getD n1 0 < raw2.length := by
              have := HIN.out (q.getD n1 0) (List.mem_of_getElem? (some_getD (by omega)))
              have := HL2.out
              omega
            rw [show q.length - 1 = n1 from by omega] at HSN
            have d2 : IntKind.i64.wrap ((q.length : Int) - 1) = (n1 : Int) := by rw [show (q.length : Int) - 1 = n1 from by omega]; exact IntWalk.i64_in _ ⟨by omega, by omega⟩
            have c3 : (n1 : Int) < q.length := by omega
            have c4 : (0 : Int) ≤ n1 := by omega
            obtain ⟨b0, b1, b2, bf2⟩ := HI7.out.cells
            obtain ⟨g7, c7', e7, _⟩ := HI7.out.n.block (by omega)
            injection e7 with e7 _ _
            subst e7
            obtain ⟨gv, rfl, hpc⟩ := HI7.out.at_ rfl (i := n1) (by omega)
            generalize hla : q.getD n1 0 = la at *
            have c5 : (la : Int) < raw2.length := by omega
            have c6 : (0 : Int) ≤ la := by omega
            obtain ⟨k0, k1⟩ := HI7.out.n.cells rfl hlm
            have kf := HI7.out.n.frozen rfl (la * 2 + 1)
            have kf2 : X.drew.frozen? ⟨g7, la * 2 + 1, none⟩ = false := kf
            have hr2 : raw2.length ≤ 4000 := by have := HL2.out; have := HT2.out; omega
            have HLM := Lib.hid hlm
            clear hn1 hlm hla b0 b1 bf2 k0
            go_wp2_with (fail)
            go_still_tail 9, (by kernel_rfl)
            have I8 := HI7.out.next (i := la) HLM.out (raw.length : Int)
            have HI8 := Lib.hid (I8.ext_ (((Ext.refl _).alloc (.cells #[.int .i64 (raw.length : Int)] 3)).drew))
            clear I8 b2 hpc kf
            go_wp2_with (at_builtin; refine wpList_app_U _ elemI rfl _ _ rfl (base := w.heap.size + 2) rfl HI8.out.pth (m := [(raw.length : Int)]) rfl ((SlG.one elemI.hk _ ?z1 ?z2).ext (Ext.refl _).drew) ?z3 ?z4 ?z5 ?z6 ?_)
            all_goals first
              | rfl
              | (intro e; cases e; done)
              | (simp; done)
              | (rw [ints_len]; simp; omega; done)
              | (have := BoxN.lt HI8.out.res; simp at this; simp; omega; done)
              | skip
            intro v9 w9 ho9 hg9 hb9 hob9
            have I9 := HI8.out.path (f := raw.length) ho9 hg9 (by simpa using hob9)
            obtain ⟨Pv9, cv9, rfl, _⟩ := ho9.read elemI (by rw [List.length_append, ints_len]; simp; omega)
            rw [List.length_append, ints_len, List.length_singleton] at I9 ⊢
            have HI9 := Lib.hid I9
            have HQ9 := Lib.hid (show (q ++ [raw.length]).length = q.length + 1 from by simp)
            clear ho9 hg9 hb9 hob9 I9
            go_wp2_with (fail)
            go_roundg gp
            case measure => omega
            case rel => exact ⟨j + 1, _, _, _, Pv9, cv9, by have := HGK.out; omega, by rw [HSN.out]; show _ = Value.slice Pv9 (q ++ [raw.length]).length cv9; rw [HQ9.out], by rw [HSN.out]; show WI FF w _ h r Q d m _ _ (.slice Pv9 (q ++ [raw.length]).length cv9) _ _ _; rw [HQ9.out]; exact HI9.out⟩
        · have hroom : roomF T (freeF h T) = T := by unfold roomF; rw [if_neg (by have := HRL.out; omega)]
          rw [hroom] at HSN
          have HI7 := Lib.hid I
          generalize freeF h T = f at *
          have c8 : decide ((f : Int) < 0) = false := decide_eq_false (by omega)
          clear hroom HFR f2 I
          by_cases hil : i < raw.length
          all_goals
            first
              | (have c9 : (i : Int) < raw.length := by omega)
              | (have c9 : decide ((i : Int) < raw.length) = false := decide_eq_false (by omega))
            go_wp2_with (fail)
            have HL2 := Lib.hid (show raw.length = T.length + 0 from by have := HRL.out; omega)
            have HT2 := Lib.hid (show T.length ≤ 3000 from by have := HRL.out; omega)
            generalize wr = X at *
            obtain ⟨n1, hn1⟩ : ∃ n1, q.length = n1 + 1 := ⟨q.length - 1, by have := HQL.out; omega⟩
            have HN1 := Lib.hid hn1
            have hlm : q.getD n1 0 < raw.length := by
              have := HIN.out (q.getD n1 0) (List.mem_of_getElem? (some_getD (by omega)))
              have := HL2.out
              omega
            rw [show q.length - 1 = n1 from by omega] at HSN
            have d2 : IntKind.i64.wrap ((q.length : Int) - 1) = (n1 : Int) := by rw [show (q.length : Int) - 1 = n1 from by omega]; exact IntWalk.i64_in _ ⟨by omega, by omega⟩
            have c3 : (n1 : Int) < q.length := by omega
            have c4 : (0 : Int) ≤ n1 := by omega
            obtain ⟨b0, b1, b2, bf2⟩ := HI7.out.cells
            obtain ⟨g7, c7', e7, _⟩ := HI7.out.n.block (by omega)
            injection e7 with e7 _ _
            subst e7
            obtain ⟨gv, rfl, hpc⟩ := HI7.out.at_ rfl (i := n1) (by omega)
            generalize hla : q.getD n1 0 = la at *
            have c5 : (la : Int) < raw.length := by omega
            have c6 : (0 : Int) ≤ la := by omega
            obtain ⟨k0, k1⟩ := HI7.out.n.cells rfl hlm
            have kf := HI7.out.n.frozen rfl (la * 2 + 1)
            have kf2 : X.drew.frozen? ⟨g7, la * 2 + 1, none⟩ = false := kf
            have hr2 : raw.length ≤ 4000 := by have := HL2.out; have := HT2.out; omega
            have HLM := Lib.hid hlm
            clear hn1 hlm hla b0 b1 bf2 k0
            go_wp2_with (fail)
            go_still_tail 9, (by kernel_rfl)
            have I8 := HI7.out.next (i := la) HLM.out (f : Int)
            have HI8 := Lib.hid (I8.ext_ (((Ext.refl _).alloc (.cells #[.int .i64 (f : Int)] 3)).drew))
            clear I8 b2 hpc kf
            go_wp2_with (at_builtin; refine wpList_app_U _ elemI rfl _ _ rfl (base := w.heap.size + 2) rfl HI8.out.pth (m := [(f : Int)]) rfl ((SlG.one elemI.hk _ ?_ ?_).ext (Ext.refl _).drew) ?_ ?_ ?_ ?_ ?_)
            all_goals first
              | rfl
              | (intro e; cases e; done)
              | (simp; done)
              | (rw [ints_len]; simp; omega; done)
              | (have := BoxN.lt HI8.out.res; simp at this; simp; omega; done)
              | skip
            intro v9 w9 ho9 hg9 hb9 hob9
            have I9 := HI8.out.path (f := f) ho9 hg9 (by simpa using hob9)
            obtain ⟨Pv9, cv9, rfl, _⟩ := ho9.read elemI (by rw [List.length_append, ints_len]; simp; omega)
            rw [List.length_append, ints_len, List.length_singleton] at I9 ⊢
            have HI9 := Lib.hid I9
            have HQ9 := Lib.hid (show (q ++ [f]).length = q.length + 1 from by simp)
            clear ho9 hg9 hb9 hob9 I9
            go_wp2_with (fail)
            go_roundg gp
            case measure => omega
            case rel => exact ⟨j + 1, _, _, _, Pv9, cv9, by have := HGK.out; omega, by rw [HSN.out]; show _ = Value.slice Pv9 (q ++ [f]).length cv9; rw [HQ9.out], by rw [HSN.out]; show WI FF w _ h r Q d m _ _ (.slice Pv9 (q ++ [f]).length cv9) _ _ _; rw [HQ9.out]; exact HI9.out⟩
    · have hjN : j = N - p.length := by omega
      have c1 : ¬ ((growF h j T0 p).2.length : Int) < N := by omega
      have hgo := hgj.out
      have hTb : (growF h j T0 p).1.length ≤ 3000 := by have := HTL.out; have := HNB.out; omega
      have hqb : (growF h j T0 p).2.length ≤ 3000 := by have := HNB.out; omega
      have hqp : 0 < (growF h j T0 p).2.length := by omega
      have HWF := Lib.hid (show withF h r T0 p (m.map hdA) = trimL h ((growF h j T0 p).1.length - h) (layF r (growF h j T0 p).2 (m.map hdA) (growF h j T0 p).2.length (growF h j T0 p).1) from by
        unfold withF
        rw [List.length_map, hN0, ← hjN]
        simp only [layF_len])
      have hNq : N ≤ (growF h j T0 p).2.length := by omega
      have HN0 := Lib.hid hN0
      have hinT := hgo.2.1
      have hhT := hgo.1
      clear hjN hql0 hgo hgj HG HGL HTL HNB hN0 I0 hlt hk
      generalize (growF h j T0 p).1 = T at *
      generalize (growF h j T0 p).2 = q at *
      have HIN := Lib.hid hinT
      have HQB := Lib.hid hqb
      have HQP := Lib.hid hqp
      have HTB := Lib.hid hTb
      have HNQ := Lib.hid hNq
      have HHT := Lib.hid hhT
      have HRL := Lib.hid hrl
      clear hinT hhT hqp hTb hrl
      have I00 := I
      clear a0 a1 a2 f2
      go_wp2_with (fail)
      clear c1
      have hrr : (r : Int) ≤ 20 := by omega
      have hr2' : r ≤ 20 := hr2
      go_loopw [11] (fun a wr2 => ∃ (i : Nat) (raw2 : List BkR) (P' : Option Addr) (c' : Nat), i ≤ q.length ∧ a = .int .i64 i ∧ WI FF w wr2 h r Q d m (layF r q (m.map hdA) i T) q (.slice Pv q.length cv) raw2 P' c') (fun a _ => q.length - (intOf a).toNat)
      case atStart => exact ⟨0, raw, P2, c2, by omega, rfl, I00⟩
      case round =>
        obtain ⟨i, raw2, P3, c3, hi, rfl, I⟩ := hrel
        obtain ⟨a0, a1, a2, f2⟩ := I.cells
        have hrl : raw2.length = T.length := by rw [I.len, layF_len]
        by_cases hlt : i < q.length
        · have cq : (i : Int) < q.length := by omega
          have d1 : IntKind.i64.wrap ((i : Int) + 1) = (i : Int) + 1 := IntWalk.i64_in _ ⟨by omega, by omega⟩
          have hlaT := HIN.out (q.getD i 0) (List.mem_of_getElem? (some_getD hlt))
          obtain ⟨gv, rfl, hpc⟩ := I.at_ rfl hlt
          have HLA := Lib.hid (show layF r q (m.map hdA) (i + 1) T = (layF r q (m.map hdA) i T).set (q.getD i 0) (if i < N then chunk r i (m.map hdA) else [], if i + 1 < N then (q.getD (i + 1) 0 : Nat) else -1) from by
            rw [← HN0.out, show needC r m.length = needC r (m.map hdA).length from by rw [List.length_map]]
            rfl)
          have hlm : q.getD i 0 < raw2.length := by omega
          obtain ⟨g7, c7, e7, hg7, hg8, _⟩ := I.n.block (by omega)
          injection e7 with e7 _ e8
          subst e7 e8
          obtain ⟨k0, k1⟩ := I.n.cells rfl hlm
          have kf0 := I.n.frozen rfl (q.getD i 0 * 2)
          have kf1 := I.n.frozen rfl (q.getD i 0 * 2 + 1)
          have hpm := I.pth.base_ gv rfl
          generalize hla : q.getD i 0 = la at *
          have c5 : (la : Int) < raw2.length := by omega
          have c6 : (0 : Int) ≤ la := by omega
          have HLM := Lib.hid hlm
          have HRL2 := Lib.hid hrl
          have hr2 : raw2.length ≤ 4000 := by have := HTB.out; omega
          clear hla hlm hrl hlaT
          by_cases hiN : i < N
          · have ciN : (i : Int) < N := by omega
            obtain ⟨a1', hav⟩ : ∃ z, i * r = z := ⟨_, rfl⟩
            obtain ⟨a2', haw⟩ : ∃ z, (i + 1) * r = z := ⟨_, rfl⟩
            obtain ⟨lo, hlo⟩ : ∃ z, min a1' m.length = z := ⟨_, rfl⟩
            obtain ⟨hi', hhi⟩ : ∃ z, min a2' m.length = z := ⟨_, rfl⟩
            have ha12 : a1' ≤ a2' := by rw [← hav, ← haw, Nat.add_mul]; omega
            have ha2 : a2' ≤ 100000 := by
              have h1 : (i + 1) * r ≤ (i + 1) * 20 := Nat.mul_le_mul_left _ hr2'
              omega
            have ha1 : a1' ≤ 100000 := by omega
            have p1' : ((i : Int) * (r : Int)) = (a1' : Int) := by rw [← Int.natCast_mul, hav]
            have p2' : (((i : Int) + 1) * (r : Int)) = (a2' : Int) := by rw [show ((i : Int) + 1) = ((i + 1 : Nat) : Int) from by omega, ← Int.natCast_mul, haw]
            have p3 : min (a1' : Int) (m.length : Int) = (lo : Int) := by omega
            have p4 : min (a2' : Int) (m.length : Int) = (hi' : Int) := by omega
            have hlh : lo ≤ hi' := by omega
            have hhm : hi' ≤ m.length := by omega
            have HPI := Lib.hid (show (m.take hi').drop lo = chunk r i m from by rw [← hhi, ← hlo, ← hav, ← haw]; exact chunk_part r i m)
            have hsv := part_value Q m.length d lo hi' 2 hlh (by have := I.inp.sl.le; omega) 42 (by kernel_rfl) (by kernel_rfl)
            have HPS := Lib.hid (fun (X : World) (hX : SlH X Q d m) => hX.part lo hi' hlh hhm d (d - lo) (by have := I.inp.sl.le; omega) (by omega) (fun e => by have := I.inp.sl.le; omega))
            have HPR := Lib.hid (show ∀ x ∈ (m.take hi').drop lo, Off (fun i => w.heap.size ≤ i ∨ FF i) x.1.1 x.1.2.2 from fun x hx => (I.inpo.row x (List.mem_of_mem_take (List.mem_of_mem_drop hx))).or (HMF.out x (List.mem_of_mem_take (List.mem_of_mem_drop hx))))
            have HPL := Lib.hid (show ((m.take hi').drop lo).length = hi' - lo from by rw [List.length_drop, List.length_take]; omega)
            have HLO := Lib.hid (And.intro hlh hhm)
            clear hlo hhi hav haw hlh hhm ha12
            have hxb := (Ext.refl wr).alloc (.cells #[.slice none 0 0, .int .i64 (-1)] 54)
            have hxb1 := hxb.alloc (.cells #[] 56)
            have hbx := BoxN.new wr 54 #[.slice none 0 0, .int .i64 (-1)]
            generalize hpp : (m.take hi').drop lo = pc at *
            have HINP := Lib.hid I.inp
            generalize hQ' : (if d = lo then Q else Q.map (·.add (lo * 2))) = Q' at *
            clear hpp hQ'
            have hxc := BoxN.ext hbx ((Ext.refl _).alloc (.cells #[] 56))
            have a1 := hxb1.cell a1
            go_wp2_with (at_builtin; refine wpList_app_U _ elemHd rfl _ _ rfl (base := wr.heap.size + 1) rfl (OwnG.lit0At (B := wr.heap.size + 1) ?_ ?_) (m := pc) (by rw [HPL.out]; rfl) ((HPS.out _ (HINP.out.ext hxb1)).sl) (HPS.out _ (HINP.out.ext hxb1)).nil ?_ ?_ ?_ ?_)
            all_goals first
              | (simp; done)
              | (have := HPL.out; have := HLO.out; simp; omega; done)
              | (have := HPL.out; have := HLO.out; omega; done)
              | skip
            intro v7 w7 ho7 hg7' hb7 hob7
            have hx7 : Ext (wr.alloc (.cells #[.slice none 0 0, .int .i64 (-1)] 54)) w7 := below_ext ((Ext.refl _).alloc (.cells #[] 56)) hb7 (by simp)
            replace ho7 : OwnG csHd 56 2 w7 (wr.heap.size + 1) v7 pc := ho7
            have hP7 : ∀ {P7 : Option Addr} {n7 c7 : Nat}, v7 = .slice P7 n7 c7 → Off (fun i => i < wr.heap.size + 1) P7 pc := fun e hne b off e2 hb => by
              subst e e2
              have := (own_lt ho7 (g := b) rfl).1
              omega
            have hwr := BoxN.lt I.res
            by_cases hi2 : i + 1 < N
            · have ciN2 : (i : Int) + 1 < N := by omega
              rw [if_pos hiN, if_pos hi2] at HLA
              obtain ⟨P7, c7', rfl, hs7⟩ := SlH.of_own ho7 (by have := HPL.out; have := HLO.out; omega) ((HPS.out _ (HINP.out.ext (hxb.trans hx7))).row)
              have hP7 := hP7 rfl
              clear ho7 hg7' hb7 hob7
              have hbx7 := BoxN.ext hbx hx7
              have f0 := hbx7.frozen 0
              have e0 := hbx7.cell (i := 0) rfl
              have hbx8 : BoxN (w7.setCell ⟨wr.heap.size, 0, none⟩ (.slice P7 pc.length c7')) wr.heap.size 54 #[.slice P7 pc.length c7', .int .i64 (-1)] := hbx7.set 0 (.slice P7 pc.length c7')
              have f1 := hbx8.frozen 1
              have e1 := hbx8.cell (i := 1) rfl
              obtain ⟨gv', eg, hpc2⟩ := I.at_ rfl (i := i + 1) (by omega)
              injection eg with eg
              injection eg with eg
              subst eg
              have hnx := trivial
              have hxs := ((hxb.trans hx7).setCell (p := ⟨wr.heap.size, 0, none⟩) (Nat.le_refl _) (.slice P7 pc.length c7')).setCell (p := ⟨wr.heap.size, 1, none⟩) (Nat.le_refl _) (.int .i64 ((q.getD (i + 1) 0 : Nat) : Int))
              have hbx9 : BoxN ((w7.setCell ⟨wr.heap.size, 0, none⟩ (.slice P7 pc.length c7')).setCell ⟨wr.heap.size, 1, none⟩ (.int .i64 ((q.getD (i + 1) 0 : Nat) : Int))) wr.heap.size 54 #[.slice P7 pc.length c7', .int .i64 ((q.getD (i + 1) 0 : Nat) : Int)] := hbx8.set 1 (.int .i64 ((q.getD (i + 1) 0 : Nat) : Int))
              have hs8 := hs7.upd (((UpdF.refl (fun j => j = wr.heap.size) w7).setCell (p := ⟨wr.heap.size, 0, none⟩) (.inl rfl) (.slice P7 pc.length c7')).setCell (p := ⟨wr.heap.size, 1, none⟩) (.inl rfl) (.int .i64 ((q.getD (i + 1) 0 : Nat) : Int))) ⟨hP7.mono (fun j hj => by omega), fun x hx => (HPR.out x hx).mono (fun j hj => .inl (by omega))⟩
              have hpc2 := ((hxb.trans hx7).setCell (p := ⟨wr.heap.size, 0, none⟩) (Nat.le_refl _) (.slice P7 pc.length c7')).cell hpc2
              have m0 := hbx9.cell (i := 0) rfl
              have m1 := hbx9.cell (i := 1) rfl
              have I8 := I.ext_ hxs
              obtain ⟨k0, k1⟩ := I8.n.cells rfl HLM.out
              have kf0 := I8.n.frozen rfl (la * 2)
              have kf1 := I8.n.frozen rfl (la * 2 + 1)
              have hpc := hxs.cell hpc
              have a2 := hxs.cell a2
              have I9 := I8.row (i := la) HLM.out ((P7, c7', pc), ((q.getD (i + 1) 0 : Nat) : Int)) hs8 ⟨hP7.mono (fun j hj => by rcases hj with rfl | hj | hj | hj <;> first | omega | (have := (own_lt I.pth hj).2; omega) | (have := HFF.out j hj; have := BoxN.lt I.res; omega)), fun x hx => (HPR.out x hx).mono (fun j hj => by rcases hj with rfl | hj | hj | hj <;> first | exact .inl (by omega) | exact .inl (by have := (own_lt I.pth hj).1; omega) | exact .inr hj)⟩
              rw [show bkA ((P7, c7', pc), ((q.getD (i + 1) 0 : Nat) : Int)) = (chunk r i (m.map hdA), ((q.getD (i + 1) 0 : Nat) : Int)) from by unfold bkA; rw [chunk_map, ← HPI.out]] at I9
              have HI9 := Lib.hid (I9.ext_ (Ext.refl _).drew)
              clear I8 I9 hbx7 hbx8 hbx9 hs7 hs8
              generalize hnx2 : q.getD (i + 1) 0 = nxt at *
              have cq2 : (i : Int) + 1 < q.length := by omega
              have cq3 : (0 : Int) ≤ (i : Int) + 1 := by omega
              clear hnx2
              go_wp2_with (fail)
              generalize ((w7.setCell ⟨wr.heap.size, 0, none⟩ (.slice P7 pc.length c7')).setCell ⟨wr.heap.size, 1, none⟩ (.int .i64 (nxt : Int))) = X at *
              go_still_tail 7, (by kernel_rfl)
              go_wp2_with (fail)
              go_roundw
              case rel => exact ⟨i + 1, _, _, _, by omega, by go_num, by rw [HLA.out]; exact HI9.out⟩
              case measure => simp [intOf]; omega
            · have ciN2 : ¬ (i : Int) + 1 < N := by omega
              rw [if_pos hiN, if_neg hi2] at HLA
              obtain ⟨P7, c7', rfl, hs7⟩ := SlH.of_own ho7 (by have := HPL.out; have := HLO.out; omega) ((HPS.out _ (HINP.out.ext (hxb.trans hx7))).row)
              have hP7 := hP7 rfl
              clear ho7 hg7' hb7 hob7
              have hbx7 := BoxN.ext hbx hx7
              have f0 := hbx7.frozen 0
              have e0 := hbx7.cell (i := 0) rfl
              have hbx8 : BoxN (w7.setCell ⟨wr.heap.size, 0, none⟩ (.slice P7 pc.length c7')) wr.heap.size 54 #[.slice P7 pc.length c7', .int .i64 (-1)] := hbx7.set 0 (.slice P7 pc.length c7')
              have f1 := hbx8.frozen 1
              have e1 := hbx8.cell (i := 1) rfl
              have hxs := (hxb.trans hx7).setCell (p := ⟨wr.heap.size, 0, none⟩) (Nat.le_refl _) (.slice P7 pc.length c7')
              have hbx9 := hbx8
              have hs8 := hs7.upd ((UpdF.refl (fun j => j = wr.heap.size) w7).setCell (p := ⟨wr.heap.size, 0, none⟩) (.inl rfl) (.slice P7 pc.length c7')) ⟨hP7.mono (fun j hj => by omega), fun x hx => (HPR.out x hx).mono (fun j hj => .inl (by omega))⟩
              have m0 := hbx9.cell (i := 0) rfl
              have m1 := hbx9.cell (i := 1) rfl
              have I8 := I.ext_ hxs
              obtain ⟨k0, k1⟩ := I8.n.cells rfl HLM.out
              have kf0 := I8.n.frozen rfl (la * 2)
              have kf1 := I8.n.frozen rfl (la * 2 + 1)
              have hpc := hxs.cell hpc
              have a2 := hxs.cell a2
              have I9 := I8.row (i := la) HLM.out ((P7, c7', pc), (-1)) hs8 ⟨hP7.mono (fun j hj => by rcases hj with rfl | hj | hj | hj <;> first | omega | (have := (own_lt I.pth hj).2; omega) | (have := HFF.out j hj; have := BoxN.lt I.res; omega)), fun x hx => (HPR.out x hx).mono (fun j hj => by rcases hj with rfl | hj | hj | hj <;> first | exact .inl (by omega) | exact .inl (by have := (own_lt I.pth hj).1; omega) | exact .inr hj)⟩
              rw [show bkA ((P7, c7', pc), (-1)) = (chunk r i (m.map hdA), (-1)) from by unfold bkA; rw [chunk_map, ← HPI.out]] at I9
              have HI9 := Lib.hid (I9.ext_ (Ext.refl _).drew)
              clear I8 I9 hbx7 hbx8 hbx9 hs7 hs8
              go_wp2_with (fail)
              generalize (w7.setCell ⟨wr.heap.size, 0, none⟩ (.slice P7 pc.length c7')) = X at *
              go_still_tail 7, (by kernel_rfl)
              go_wp2_with (fail)
              go_roundw
              case rel => exact ⟨i + 1, _, _, _, by omega, by go_num, by rw [HLA.out]; exact HI9.out⟩
              case measure => simp [intOf]; omega
          · have ciN : ¬ (i : Int) < N := by omega
            have ciN2 : ¬ (i : Int) + 1 < N := by omega
            rw [if_neg hiN, if_neg (by omega)] at HLA
            have hxb := (Ext.refl wr).alloc (.cells #[.slice none 0 0, .int .i64 (-1)] 54)
            have hbx := BoxN.new wr 54 #[.slice none 0 0, .int .i64 (-1)]
            have m0 := hbx.cell (i := 0) rfl
            have m1 := hbx.cell (i := 1) rfl
            have I2 := I.ext_ hxb
            obtain ⟨k0, k1⟩ := I2.n.cells rfl HLM.out
            have kf0 := I2.n.frozen rfl (la * 2)
            have kf1 := I2.n.frozen rfl (la * 2 + 1)
            have I3 := I2.row (i := la) HLM.out ((none, 0, []), -1) (SlH.empty _) (OffH.empty _)
            have HI3 := Lib.hid (I3.ext_ (Ext.refl _).drew)
            have hpc := hxb.cell hpc
            have a2 := hxb.cell a2
            clear I2 I3 hiN hbx
            go_wp2_with (fail)
            generalize (wr.alloc (.cells #[.slice none 0 0, .int .i64 (-1)] 54)) = X at *
            go_still_tail 7, (by kernel_rfl)
            go_wp2_with (fail)
            go_roundw
            case rel => exact ⟨i + 1, _, _, _, by omega, by go_num, by rw [HLA.out]; exact HI3.out⟩
            case measure => simp [intOf]; omega
        · obtain rfl : i = q.length := by omega
          have hTl : (layF r q (m.map hdA) q.length T).length ≤ 3000 := by rw [layF_len]; exact HTB.out
          have hTh : h ≤ (layF r q (m.map hdA) q.length T).length := by rw [layF_len]; exact HHT.out
          rw [show T.length = (layF r q (m.map hdA) q.length T).length from by rw [layF_len]] at HWF
          clear hrl hlt
          generalize layF r q (m.map hdA) q.length T = T2 at *
          have hrl := I.len
          have HR := Lib.hid hrl
          have hr2 : raw2.length ≤ 3000 := by omega
          have HTH := Lib.hid hTh
          clear hrl hTl hTh
          have HI := Lib.hid I
          go_wp2_with (fail)
          have I := HI.out
          clear HI a0 a1 a2 f2 I00
          go_loopw [13] (fun a wr2 => ∃ (T3 : List (Bkt Hd)) (raw3 : List BkR) (P' : Option Addr) (c' : Nat), h ≤ T3.length ∧ raw3.length ≤ 3000 ∧ a = .int .i64 raw3.length ∧ trimL h (T2.length - h) T2 = trimL h (T3.length - h) T3 ∧ WI FF w wr2 h r Q d m T3 q (.slice Pv q.length cv) raw3 P' c') (fun a _ => (intOf a).toNat)
          case atStart => exact ⟨T2, raw2, P3, c3, HTH.out, hr2, rfl, rfl, I⟩
          case round =>
            obtain ⟨T3, raw3, P4, c4, hh3, hr3, rfl, htr, I⟩ := hrel
            obtain ⟨a0, a1, a2, f2⟩ := I.cells
            have hrl := I.len
            have HRL3 := Lib.hid hrl
            have HTR := Lib.hid htr
            by_cases hlt : h < raw3.length
            · have cl : (h : Int) < raw3.length := by omega
              obtain ⟨n1, hn1⟩ : ∃ n1, raw3.length = n1 + 1 := ⟨raw3.length - 1, by omega⟩
              have d1 : IntKind.i64.wrap ((raw3.length : Int) - 1) = (n1 : Int) := by rw [show (raw3.length : Int) - 1 = n1 from by omega]; exact IntWalk.i64_in _ ⟨by omega, by omega⟩
              have d2 : (raw3.length : Int) - 1 = (n1 : Int) := by omega
              have hLD := rled_any h r P4 c4 raw3 n1 wr (I.n.slP (by omega))
              unfold Tb at hLD
              rw [I.abs] at hLD
              have HN1 := Lib.hid hn1
              have HST := Lib.hid (show trimL h (T3.length - h) T3 = if ledB T3 n1 = false then trimL h (n1 - h) (T3.take n1) else T3 from by
                obtain ⟨k, hk⟩ : ∃ k, T3.length - h = k + 1 := ⟨T3.length - h - 1, by omega⟩
                rw [hk]
                show (if h < T3.length ∧ ledB T3 (T3.length - 1) = false then trimL h k (T3.take (T3.length - 1)) else T3) = _
                rw [show T3.length - 1 = n1 from by omega, show n1 - h = k from by omega]
                by_cases hq : ledB T3 n1 = false
                · rw [if_pos ⟨by omega, hq⟩, if_pos hq]
                · rw [if_neg (fun e => hq e.2), if_neg hq])
              cases hled : ledB T3 n1 with
              | true =>
                rw [hled] at hLD HST
                simp only [Bool.true_eq_false, if_false] at HST
                clear hled hn1 hrl htr
                have HIX := Lib.hid I
                have HEND := Lib.hid (show withF h r T0 p (m.map hdA) = T3 from by rw [HWF.out, HTR.out]; exact HST.out)
                go_wp2_with (go_at_call 108; refine hLD.mono ?_; rintro e w4 ⟨rfl, hx4⟩; have I4 := HIX.out.ext_ hx4; obtain ⟨a0', a1', a2', f2'⟩ := I4.cells; have b0 := I4.res.cell (i := 0) rfl; have b1 := I4.res.cell (i := 1) rfl; have b2 := I4.res.cell (i := 2) rfl; have q0 := I4.res.frozen 0; have q1 := I4.res.frozen 1; have q2 := I4.res.frozen 2)
                have hB3 := ((I4.res.set 0 (.int .i64 h)).set 1 (.int .i64 r)).set 2 (.slice P4 raw3.length c4)
                have z0 := hB3.cell (i := 0) (v := .int .i64 h) rfl
                have z1 := hB3.cell (i := 1) (v := .int .i64 r) rfl
                have z2 := hB3.cell (i := 2) (v := .slice P4 raw3.length c4) rfl
                have hu := (((UpdF.refl (fun i => i = w.heap.size + 1) w4).setCell (p := ⟨w.heap.size + 1, 0, none⟩) (.inl rfl) (.int .i64 h)).setCell (p := ⟨w.heap.size + 1, 1, none⟩) (.inl rfl) (.int .i64 r)).setCell (p := ⟨w.heap.size + 1, 2, none⟩) (.inl rfl) (.slice P4 raw3.length c4)
                exact bodyPost_ret (v := .agg #[.int .i64 h, .int .i64 r, .slice P4 raw3.length c4]) (by simp [results, Tryz.results77, go_sem, z0, z1, z2]) rfl ⟨_, raw3, rfl, (I4.n.upd hu (fun g hg e => by have := (own_lt I4.n.own hg).1; omega) (fun x hx => (I4.off x hx).mono (fun i hi => .inl (by omega)))).lower (by omega), by rw [I4.abs]; exact HEND.out.symm, (fun x hx => (I4.off x hx).mono (fun i hi => .inr hi)), hu.ext I4.ext (fun i hi => by omega)⟩
              | false =>
                rw [hled] at hLD HST
                simp only [if_true] at HST
                clear hled
                obtain ⟨g7, c7, e7, _, _, hcl, _⟩ := I.n.block (by omega)
                injection e7 with e7 _ e8
                subst e7 e8
                have hsv := front_value g7 raw3.length c4 n1 (by omega) 2 26 (by kernel_rfl) (by kernel_rfl)
                have hn1r : n1 ≤ raw3.length := by omega
                have HH3 := Lib.hid (show h ≤ n1 by omega)
                clear hn1 hcl hrl htr
                go_wp2_with (go_at_call 108; refine hLD.mono ?_; rintro e w4 ⟨rfl, hx4⟩; have I5 := (I.ext_ hx4).cut n1 hn1r; have I4 := I.ext_ hx4; obtain ⟨a0', a1', a2', f2'⟩ := I4.cells)
                go_roundw
                case rel => exact ⟨_, _, _, _, by rw [List.length_take]; have := HH3.out; have := HRL3.out; omega, by rw [List.length_take]; omega, by rw [List.length_take]; go_num, by rw [HTR.out, HST.out]; congr 1; rw [List.length_take]; have := HRL3.out; omega, I5⟩
                case measure => simp [intOf]; have := HN1.out; omega
            · have cl : ¬ (h : Int) < raw3.length := by omega
              have HIX := Lib.hid I
              have HEND := Lib.hid (show withF h r T0 p (m.map hdA) = T3 from by
                rw [HWF.out, HTR.out, show T3.length - h = 0 from by omega]
                rfl)
              clear hrl htr
              have hx4 := Ext.refl wr
              have I4 := HIX.out.ext_ hx4
              obtain ⟨a0', a1', a2', f2'⟩ := I4.cells
              have b0 := I4.res.cell (i := 0) rfl
              have b1 := I4.res.cell (i := 1) rfl
              have b2 := I4.res.cell (i := 2) rfl
              have q0 := I4.res.frozen 0
              have q1 := I4.res.frozen 1
              have q2 := I4.res.frozen 2
              go_wp2_with (fail)
              have hB3 := ((I4.res.set 0 (.int .i64 h)).set 1 (.int .i64 r)).set 2 (.slice P4 raw3.length c4)
              have z0 := hB3.cell (i := 0) (v := .int .i64 h) rfl
              have z1 := hB3.cell (i := 1) (v := .int .i64 r) rfl
              have z2 := hB3.cell (i := 2) (v := .slice P4 raw3.length c4) rfl
              have hu := (((UpdF.refl (fun i => i = w.heap.size + 1) wr).setCell (p := ⟨w.heap.size + 1, 0, none⟩) (.inl rfl) (.int .i64 h)).setCell (p := ⟨w.heap.size + 1, 1, none⟩) (.inl rfl) (.int .i64 r)).setCell (p := ⟨w.heap.size + 1, 2, none⟩) (.inl rfl) (.slice P4 raw3.length c4)
              exact bodyPost_ret (v := .agg #[.int .i64 h, .int .i64 r, .slice P4 raw3.length c4]) (by simp [results, Tryz.results77, go_sem, z0, z1, z2]) rfl ⟨_, raw3, rfl, (I4.n.upd hu (fun g hg e => by have := (own_lt I4.n.own hg).1; omega) (fun x hx => (I4.off x hx).mono (fun i hi => .inl (by omega)))).lower (by omega), by rw [I4.abs]; exact HEND.out.symm, (fun x hx => (I4.off x hx).mono (fun i hi => .inr hi)), hu.ext I4.ext (fun i hi => by omega)⟩
end
end Go.Proofs.YtcbinafokhekmaaGreatDoor

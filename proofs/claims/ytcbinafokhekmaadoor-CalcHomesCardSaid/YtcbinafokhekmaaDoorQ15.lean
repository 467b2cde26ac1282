/- CaFl; CaRm; CaRg (merged by group.py) -/
import Derived.Test.YtcbinafokhekmaaDoorQ14
namespace Go.Proofs.YtcbinafokhekmaaDoor
section
open Go.RowKit Go.Maps
set_option linter.unusedVariables false
set_option maxRecDepth 20000
set_option linter.unusedSimpArgs false
set_option linter.unusedSectionVars false
set_option maxRecDepth 100000
attribute [local go_sem] Oper.semAt_some

/-- the state of fill, since W1: the table's buckets, its blocks -/
structure FI (W1 wr : World) (F : Nat → Prop) (t h r g c : Nat) (T : List (Bkt Hd)) (raw : List BkR) (Fj : Nat → Prop) : Prop where
  abs : absT raw = T
  ct : CtO wr Fj t h r (some ⟨g, 0, none⟩) c raw
  f1 : ∀ k, F k → Fj k
  f2 : ∀ k, Fj k → F k ∨ W1.heap.size ≤ k
  u : UpdF F W1 wr
theorem FI.ext {W1 wr w2 : World} {F : Nat → Prop} {t h r g c : Nat} {T : List (Bkt Hd)} {raw : List BkR} {Fj : Nat → Prop} (I : FI W1 wr F t h r g c T raw Fj) (hx : Ext wr w2) : FI W1 w2 F t h r g c T raw Fj := ⟨I.abs, I.ct.ext hx, I.f1, I.f2, I.u.trans (UpdF.of_ext hx F)⟩
set_option maxHeartbeats 8000000 in
theorem fill_any (F : Nat → Prop) (t h r : Nat) (P : Option Addr) (c : Nat) (raw : List BkR) (k : Nat) (Q : Option Addr) (d : Nat) (m : List HdR) (w : World) (H : CtO w F t h r P c raw) (hT : FullT hdV hdH h r (absT raw)) (hl : raw.length ≤ 4000) (hk : k < h) (hm : SlH w Q d m) (hml : m.length ≤ 1000) (hoF : OffH F Q m) :
    Calls Tryd.prog 41 #[.pointer (some ⟨t, 0, none⟩), .int .i64 (k : Nat), .slice Q m.length d] w fun e w' => e = .returned (.tuple #[]) ∧ ∃ raw', absT raw' = trimE h ((absT raw).length - h) (fillF r (pathOf (absT raw) k) (m.map hdA) (pathOf (absT raw) k).length (absT raw)) ∧ CtS w F t h r raw' w' := by
  obtain ⟨hh1, hh2, hr1, hr2⟩ := hT.hh
  have hht := hT.ht
  rw [absT_len] at hht
  obtain ⟨g, c', hPe, _⟩ := H.own.tight (by omega)
  injection hPe with hPe _ hce
  subst hPe hce
  have hp := hT.path hk
  have hct := H.ctr (by omega) hT.ents_le
  have hlt := way_lt (hT.way hk)
  rw [absT_len] at hlt
  have HW := Lib.hid (hT.way hk)
  have HT := Lib.hid (absT_len raw)
  generalize hT0 : absT raw = T0 at *
  have HT0 := Lib.hid hT0
  generalize pathOf T0 k = p at *
  obtain ⟨hp1, hp2, hp3⟩ := hp
  clear hT
  go_enter Tryd.func41, Tryd.ntmps41
  go_wp2_with (go_at_call 58; refine (run_any t k _).mono ?_; rintro e W0 ⟨rfl, rfl⟩)
  have hx2 : Ext w ((w.alloc (.cells #[.pointer (some ⟨t, 0, none⟩)] 38)).alloc (.cells #[.int .i64 (k : Nat)] 3)) := ((Ext.refl w).alloc _).alloc _
  have hK : RunK (w.heap.size + 1) w.heap.size t (k : Nat) h r (some ⟨g, 0, none⟩) c raw ((w.alloc (.cells #[.pointer (some ⟨t, 0, none⟩)] 38)).alloc (.cells #[.int .i64 (k : Nat)] 3)) := by
    refine ⟨?_, ?_, hct.ext hx2⟩
    · have := Boxed.new (w.alloc (.cells #[.pointer (some ⟨t, 0, none⟩)] 38)) 3 (.int .i64 (k : Nat))
      rw [World.size_alloc] at this
      exact this.cell
    · exact ((Boxed.new w 38 (.pointer (some ⟨t, 0, none⟩))).alloc (.cells #[.int .i64 (k : Nat)] 3)).cell
  have hRun := runlist_any t (k : Nat) h r (some ⟨g, 0, none⟩) c raw p (w.heap.size + 1) w.heap.size (by rw [hT0]; exact HW.out) (by omega) _ hK
  generalize ((w.alloc (.cells #[.pointer (some ⟨t, 0, none⟩)] 38)).alloc (.cells #[.int .i64 (k : Nat)] 3)) = Wa at *
  go_at_call 60
  refine hRun.mono ?_
  rintro e W1 ⟨⟨v1, rfl, ho1⟩, hx1⟩
  obtain ⟨Pa, ca, rfl, hsa⟩ := ho1.slG elemI (by rw [ints_len]; omega)
  rw [ints_len]
  dsimp only
  have hxw := hx2.trans hx1
  have hszw := hx2.size
  have hoA : Off F Pa (ints p) := fun _ b off e hb => by
    have h1 := (own_lt ho1 (g := b) (by rw [e]; rfl)).1
    have h2 := H.Flt b hb
    omega
  have hm1 := hm.ext hxw
  have hml0 := hm1.lt
  have I0 : FI W1 W1 F t h r g c (fillF r p (m.map hdA) 0 T0) raw F := ⟨HT0.out, H.ext hxw, fun _ h => h, fun _ h => .inl h, UpdF.refl _ _⟩
  clear hRun hK hx2 hx1
  go_wp2_with (fail)
  go_loopw [18, 7, 8, 9, 10] (fun i _ _ _ _ wr => ∃ (j : Nat) (rj : List BkR) (Fj : Nat → Prop), j ≤ p.length ∧ i = .int .i64 j ∧ FI W1 wr F t h r g c (fillF r p (m.map hdA) j T0) rj Fj) (fun i _ _ _ _ _ => p.length - (intOf i).toNat)
  case atStart => exact ⟨0, raw, F, by omega, rfl, I0⟩
  case round =>
    obtain ⟨j, rj, Fj, hj, rfl, I⟩ := hrel
    by_cases hlt2 : j < p.length
    · have cj : (j : Int) < p.length := by omega
      have d1 : IntKind.i64.wrap ((j : Int) + 1) = (j : Int) + 1 := IntWalk.i64_in _ ⟨by omega, by omega⟩
      have hsaj := hsa.upd I.u hoA
      obtain ⟨b, off, hPP, k0⟩ := hsaj.intAt j (by rw [ints_len]; exact hlt2)
      rw [ints_get _ _ hlt2] at k0
      subst hPP
      have hbl : p.getD j 0 < rj.length := by
        have h1 := hlt _ (List.mem_of_getElem? (some_getD hlt2))
        have h2 := congrArg List.length I.abs
        rw [absT_len, fillF_len] at h2
        have h3 := HT.out
        omega
      have a1 := I.ct.box.cell (i := 1) rfl
      have a2 := I.ct.box.cell (i := 2) rfl
      have hrjl : rj.length ≤ 4000 := by
        have h2 := congrArg List.length I.abs
        rw [absT_len, fillF_len] at h2
        have h3 := HT.out
        omega
      obtain ⟨a1', hav⟩ : ∃ z, j * r = z := ⟨_, rfl⟩
      obtain ⟨a2', haw⟩ : ∃ z, (j + 1) * r = z := ⟨_, rfl⟩
      obtain ⟨lo, hlo⟩ : ∃ z, min a1' m.length = z := ⟨_, rfl⟩
      obtain ⟨hi', hhi⟩ : ∃ z, min a2' m.length = z := ⟨_, rfl⟩
      have ha12 : a1' ≤ a2' := by rw [← hav, ← haw, Nat.add_mul]; omega
      have ha2 : a2' ≤ 100000 := by
        have h1 : (j + 1) * r ≤ (j + 1) * 20 := Nat.mul_le_mul_left _ hr2
        omega
      have ha1 : a1' ≤ 100000 := by omega
      have p1' : ((j : Int) * (r : Int)) = (a1' : Int) := by rw [← Int.natCast_mul, hav]
      have p2' : (((j : Int) + 1) * (r : Int)) = (a2' : Int) := by rw [show ((j : Int) + 1) = ((j + 1 : Nat) : Int) from by omega, ← Int.natCast_mul, haw]
      have p3 : min (a1' : Int) (m.length : Int) = (lo : Int) := by omega
      have p4 : min (a2' : Int) (m.length : Int) = (hi' : Int) := by omega
      have hlh : lo ≤ hi' := by omega
      have hhm : hi' ≤ m.length := by omega
      have d2 : IntKind.i64.wrap (a1' : Int) = (a1' : Int) := IntWalk.i64_in _ ⟨by omega, by omega⟩
      have d3 : IntKind.i64.wrap (a2' : Int) = (a2' : Int) := IntWalk.i64_in _ ⟨by omega, by omega⟩
      have HPI := Lib.hid (show (m.take hi').drop lo = chunk r j m from by rw [← hhi, ← hlo, ← hav, ← haw]; exact chunk_part r j m)
      have hin := hm1.upd I.u hoF
      have hsv := part_valueM Q m.length d lo hi' 2 hlh (by have := hin.sl.le; omega) 32 (by kernel_rfl) (by kernel_rfl)
      have HFS := Lib.hid (show fillF r p (m.map hdA) (j + 1) T0 = (fillF r p (m.map hdA) j T0).set (p.getD j 0) (chunk r j (m.map hdA), if (m.map hdA).length ≤ (j + 1) * r then -1 else (bkt (fillF r p (m.map hdA) j T0) (p.getD j 0)).2) from rfl)
      generalize p.getD j 0 = q at *
      have cq1 : (q : Int) < rj.length := by omega
      have cq0 : (0 : Int) ≤ (q : Int) := by omega
      have HLO := Lib.hid (show hi' = m.length ↔ m.length ≤ (j + 1) * r from by rw [haw]; omega)
      clear hlo hhi hav haw ha12
      go_wp2_with (fail)
      go_quiet (fail)
      go_wp2_with (fail)
      have hxq := (Ext.refl wr).drewN nq
      have hinY := hin.ext hxq
      have hcY := I.ct.ext hxq
      have a2Y := hcY.box.cell (i := 2) rfl
      have a2d : (wr.drewN nq).drew.cell? ⟨t, 2, none⟩ = _ := a2Y
      have HI := Lib.hid I
      have HXQ := Lib.hid hxq
      have hPL : ((m.take hi').drop lo).length = hi' - lo := by rw [List.length_drop, List.length_take]; omega
      obtain ⟨pc, hpc⟩ : ∃ z, (m.take hi').drop lo = z := ⟨_, rfl⟩
      have hprt := hinY.part lo hi' hlh hhm hi' (hi' - lo) (Nat.le_refl _) (by have := hin.sl.le; omega) (fun e => e)
      have hprw : ∀ x ∈ pc, x ∈ m := fun x hx => by rw [← hpc] at hx; exact List.mem_of_mem_take (List.mem_of_mem_drop hx)
      rw [hpc] at hprt HPI hPL
      have hn2 : hi' - lo ≤ 1000 := by omega
      generalize (if hi' = lo then Q else Q.map (·.add (lo * 2))) = Q' at *
      generalize hi' - lo = n at *
      have hC : ∀ W, Ext (wr.drewN nq) W → Calls Tryd.prog 61 #[.slice Q' n n] W fun e w' => (∃ v, e = .returned v ∧ OwnG csHd 36 2 w' W.heap.size v pc) ∧ Ext W w' := fun W hx => by
        have := cloneH_any Q' n pc W (hprt.sl.ext hx) (by omega) hprt.nil
        rwa [hPL] at this
      have hxd : Ext (wr.drewN nq) (wr.drewN nq).drew := (Ext.refl _).drew
      have hgt : ¬ t = g := fun e => (I.ct.FP _ rfl).2 e.symm
      have hgt' : ¬ g = t := fun e => hgt e.symm
      have hszY : wr.heap.size = (wr.drewN nq).heap.size := by simp
      clear hpc a1 a2 I hsaj hin k0 hxq
      generalize wr.drewN nq = Y at *
      go_region_held3 (fun w' => w'.cell? ⟨t, 2, none⟩ = some (.slice (some ⟨g, 0, none⟩) rj.length c)) (go_keep)
        (first
          | (go_at_call 61; refine (hC _ hxd).mono ?_; rintro e w9 ⟨⟨v9, rfl, ho9⟩, x9⟩; obtain ⟨P9, c9, rfl, hs9, hn9⟩ := ho9.read elemHd (by omega); have a9 := x9.cell a2d; have hc9 := (hcY.ext (hxd.trans x9)).own; have z1 := hc9.cell elemBk.hk rfl q _ (nthBk_some hbl) 0 _ rfl; simp only [Nat.add_zero] at z1; have z2 := hc9.frozen rfl (q * 2))
          | fail)
      have hYw : W1.heap.size ≤ Y.heap.size := by have := HI.out.u.size; omega
      have hb9 : ∀ a, P9 = some a → Y.heap.size ≤ a.block := fun a ha => (own_lt ho9 (own_of ha)).1
      have hrow9 : ∀ y ∈ pc, SlV w9 y.1.1 y.1.2.1 y.1.2.2 ∧ (y.1.1 = none → y.1.2.1 = 0) ∧ Off (fun k => Fj k ∨ ∃ a, P9 = some a ∧ k = a.block) y.1.1 y.1.2.2 := fun y hy => by
        have h1 := hm1.row y (hprw y hy)
        refine ⟨((h1.1.upd HI.out.u (hoF.row y (hprw y hy))).ext HXQ.out).ext (hxd.trans x9), h1.2, ((hoF.row y (hprw y hy)).or (hml0.row y (hprw y hy))).mono (fun k hk => ?_)⟩
        rcases hk with hk | ⟨a, ha, rfl⟩
        · exact HI.out.f2 k hk
        · exact .inr (Nat.le_trans hYw (hb9 a ha))
      obtain ⟨_, _, z3, z4⟩ := hcY.setE (i := q) (w7 := w9) (G := fun _ => False) hbl (ho9.lower (Nat.zero_le _)) (UpdF.of_ext (hxd.trans x9) _) (fun k hk => hk.elim) (fun a ha => .inr (hb9 a ha)) hrow9
      rw [hPL] at z3 z4
      have hu9 : UpdF F W1 (w9.setCell ⟨g, q * 2, none⟩ (.slice P9 n c9)) := (HI.out.u.trans (UpdF.of_ext HXQ.out F)).trans_new z4 HI.out.f2
      have hf1 : ∀ k, F k → (fun k => Fj k ∨ ∃ a, P9 = some a ∧ k = a.block) k := fun k hk => .inl (HI.out.f1 k hk)
      have hf2 : ∀ k, (fun k => Fj k ∨ ∃ a, P9 = some a ∧ k = a.block) k → F k ∨ W1.heap.size ≤ k := fun k hk => by
        rcases hk with hk | ⟨a, ha, rfl⟩
        · exact HI.out.f2 k hk
        · exact .inr (Nat.le_trans hYw (hb9 a ha))
      have hql : q < (rj.set q ((P9, c9, pc), (nthBk rj q).2)).length := by rw [List.length_set]; exact hbl
      have habs1 := HI.out.abs
      have hqT : (bkt (fillF r p (m.map hdA) j T0) q).2 = (nthBk rj q).2 := by
        rw [← habs1, absT_bkt hbl]; rfl
      have k2 := z3.box.cell (i := 2) rfl
      rw [List.length_set] at k2
      by_cases hfin : hi' = m.length
      · have k3 := z3.own.cell elemBk.hk rfl q _ (nthBk_some hql) 1 _ rfl
        have k4 := z3.own.frozen rfl (q * 2 + 1)
        obtain ⟨H8, u8⟩ := z3.next (i := q) hql (-1)
        have hg8 : nthBk (rj.set q ((P9, c9, pc), (nthBk rj q).2)) q = ((P9, c9, pc), (nthBk rj q).2) := by
          unfold nthBk
          rw [List.getD_eq_getElem?_getD, List.getElem?_set_self hbl]
          rfl
        rw [hg8, List.set_set] at H8
        have HJ := Lib.hid (show FI W1 _ F t h r g c (fillF r p (m.map hdA) (j + 1) T0) _ _ from ⟨by
          rw [HFS.out, absT_set, habs1, if_pos (by rw [List.length_map]; exact HLO.out.1 hfin), chunk_map, ← HPI.out]
          rfl, H8, hf1, hf2, hu9.trans_new u8 hf2⟩)
        have cfin : (hi' : Int) = m.length := by omega
        have cq2 : (q : Int) < rj.length := cq1
        clear H8 u8 z3 z4 ho9 hfin HI hcY hinY
        generalize (w9.setCell ⟨g, q * 2, none⟩ (.slice P9 n c9)) = Z at *
        go_wp2_with (fail)
        go_roundw
        case rel => exact ⟨j + 1, _, _, by omega, by go_num, HJ.out⟩
        case measure => simp [intOf]; omega
      · have HJ := Lib.hid (show FI W1 _ F t h r g c (fillF r p (m.map hdA) (j + 1) T0) _ _ from ⟨by
          rw [HFS.out, absT_set, habs1, if_neg (by rw [List.length_map]; exact fun e => hfin (HLO.out.2 e)), chunk_map, ← HPI.out, hqT]
          rfl, z3, hf1, hf2, hu9⟩)
        have cfin : ¬ (hi' : Int) = m.length := by omega
        clear z3 z4 ho9 hfin HI hcY hinY
        generalize (w9.setCell ⟨g, q * 2, none⟩ (.slice P9 n c9)) = Z at *
        go_wp2_with (fail)
        go_roundw
        case rel => exact ⟨j + 1, _, _, by omega, by go_num, HJ.out⟩
        case measure => simp [intOf]; omega
    · obtain rfl : j = p.length := by omega
      have hrl : rj.length = raw.length := by
        have h2 := congrArg List.length I.abs
        rw [absT_len, fillF_len] at h2
        have h3 := HT.out
        omega
      have HTR := Lib.hid (show trimE h (T0.length - h) (fillF r p (m.map hdA) p.length T0) = trimE h (rj.length - h) (fillF r p (m.map hdA) p.length T0) from by rw [hrl, HT.out])
      generalize hT2 : fillF r p (m.map hdA) p.length T0 = T2 at *
      have HT2 := Lib.hid hT2
      clear hT2
      have HC := Lib.hid (show ∀ (wr : World) (T3 : List (Bkt Hd)) (r3 : List BkR) (Fj : Nat → Prop), FI W1 wr F t h r g c T3 r3 Fj → CtS w F t h r r3 wr from fun wr T3 r3 Fj I => ⟨_, c, Fj, I.ct, I.f1, fun k hk => (I.f2 k hk).imp id (fun e => Nat.le_trans hxw.size e), (UpdF.of_ext hxw F).trans I.u⟩)
      clear I0 hsa hoA hm1 hml0 hlt hlt2
      go_wp2_with (fail)
      go_loopg [11] (rj.length - h) (fun gk _ wr2 => ∃ (T3 : List (Bkt Hd)) (r3 : List BkR) (F3 : Nat → Prop), gk + h = r3.length ∧ r3.length ≤ 4000 ∧ trimE h (rj.length - h) T2 = trimE h gk T3 ∧ FI W1 wr2 F t h r g c T3 r3 F3)
      case atStart => exact ⟨T2, rj, Fj, by omega, by omega, rfl, I⟩
      case round =>
        obtain ⟨T3, r3, F3, hgk, hr3, htr, I⟩ := hrel
        have a0 := I.ct.box.cell (i := 0) rfl
        have a2 := I.ct.box.cell (i := 2) rfl
        have f2 := I.ct.box.frozen 2
        have habs := I.abs
        cases gk with
        | zero =>
          have c1 : ¬ (h : Int) < r3.length := by omega
          have HF := Lib.hid (show absT r3 = trimE h (rj.length - h) T2 from by rw [htr, habs]; rfl)
          have HIX := Lib.hid I
          go_wp2_with (fail)
          go_quiet (fail)
          go_wp2_with (fail)
          refine bodyPost_end (results_none rfl _ _ _) rfl ⟨rfl, r3, ?_, (HC.out _ _ _ _ HIX.out).ext ((Ext.refl _).drewN _)⟩
          rw [HF.out, HT2.out, HTR.out]
        | succ gp =>
          have c1 : (h : Int) < r3.length := by omega
          obtain ⟨n1, hn1⟩ : ∃ n1, r3.length = n1 + 1 := ⟨r3.length - 1, by omega⟩
          have hlt3 : n1 < r3.length := by omega
          have m0 := I.ct.own.cell elemBk.hk rfl n1 _ (nthBk_some hlt3) 0 _ rfl
          have m1 := I.ct.own.cell elemBk.hk rfl n1 _ (nthBk_some hlt3) 1 _ rfl
          simp only [Nat.add_zero] at m0
          have d1 : IntKind.i64.wrap ((r3.length : Int) - 1) = (n1 : Int) := by rw [show (r3.length : Int) - 1 = (n1 : Int) from by omega]; exact IntWalk.i64_in _ ⟨by omega, by omega⟩
          have c2 : (n1 : Int) < r3.length := by omega
          have c3 : (0 : Int) ≤ (n1 : Int) := by omega
          have HI := Lib.hid I
          have HN1 := Lib.hid hn1
          clear hn1
          have hxq := fun n => (Ext.refl wr).drewN n
          have HTE := Lib.hid htr
          have hbkt : (T3.getD (T3.length - 1) ([], -1)).1 = (nthBk r3 n1).1.2.2.map hdA := by
            have e1 : T3.length = n1 + 1 := by rw [← habs, absT_len]; exact HN1.out
            have e2 := absT_some hlt3
            rw [habs] at e2
            rw [e1, Nat.add_sub_cancel, List.getD_eq_getElem?_getD, e2]
            rfl
          have HT3 := Lib.hid (show T3.length = n1 + 1 from by rw [← habs, absT_len]; exact HN1.out)
          have HBK := Lib.hid hbkt
          clear hbkt htr
          generalize hB : nthBk r3 n1 = BB at *
          obtain ⟨⟨Pe, ce, le⟩, nx⟩ := BB
          clear hB I
          go_wp2_with (fail)
          go_quiet (fail)
          go_wp2_with (fail)
          have hxY := hxq nq
          have s1 := hxY.drew.cell a2
          have s2 := hxY.drew.cell m0
          have s3 := hxY.drew.cell m1
          have hfz := (HI.out.ct.ext hxY).box.frozen 2
          have hctY := HI.out.ct.ext hxY
          have hszY : (wr.drewN nq).heap.size = wr.heap.size := by simp
          generalize wr.drewN nq = Y at *
          refine wp_region_noPanic ?_
          refine wp_region_held (S := fun w' => w'.cell? ⟨t, 2, none⟩ = some (.slice (some ⟨g, 0, none⟩) r3.length c) ∧ w'.cell? ⟨g, n1 * 2, none⟩ = some (.slice Pe le.length ce) ∧ w'.cell? ⟨g, n1 * 2 + 1, none⟩ = some (.int .i64 nx)) (by kernel_rfl) ?_
          refine wpAnyH_take (i := 0) (v := .pointer (some ⟨t, 0, none⟩)) (fuel := 13) rfl (by kernel_rfl) (by kernel_rfl) (by kernel_rfl) (fun _ _ _ h => h) (.inl ⟨rfl, fun W hS => by obtain ⟨e2, e3, e4⟩ := hS; go_simp⟩) ⟨s1, s2, s3⟩ ?_
          refine wpAnyH_take (i := 1) (v := .pointer (some ⟨t, 0, none⟩)) (fuel := 12) rfl (by kernel_rfl) (by kernel_rfl) (by kernel_rfl) (fun _ _ _ h => h) (.inl ⟨rfl, fun W hS => by obtain ⟨e2, e3, e4⟩ := hS; go_simp⟩) ⟨s1, s2, s3⟩ ?_
          refine wpAnyH_take (i := 2) (v := .pointer (some ⟨t, 2, none⟩)) (fuel := 11) rfl (by kernel_rfl) (by kernel_rfl) (by kernel_rfl) (fun _ _ _ h => h) (.inl ⟨rfl, fun W hS => by obtain ⟨e2, e3, e4⟩ := hS; go_simp⟩) ⟨s1, s2, s3⟩ ?_
          refine wpAnyH_take (i := 3) (v := .slice (some ⟨g, 0, none⟩) r3.length c) (fuel := 10) rfl (by kernel_rfl) (by kernel_rfl) (by kernel_rfl) (fun _ _ _ h => h) (.inl ⟨rfl, fun W hS => by obtain ⟨e2, e3, e4⟩ := hS; go_simp⟩) ⟨s1, s2, s3⟩ ?_
          refine wpAnyH_take (i := 4) (v := .pointer (some ⟨t, 0, none⟩)) (fuel := 9) rfl (by kernel_rfl) (by kernel_rfl) (by kernel_rfl) (fun _ _ _ h => h) (.inl ⟨rfl, fun W hS => by obtain ⟨e2, e3, e4⟩ := hS; go_simp⟩) ⟨s1, s2, s3⟩ ?_
          refine wpAnyH_take (i := 5) (v := .pointer (some ⟨t, 0, none⟩)) (fuel := 8) rfl (by kernel_rfl) (by kernel_rfl) (by kernel_rfl) (fun _ _ _ h => h) (.inl ⟨rfl, fun W hS => by obtain ⟨e2, e3, e4⟩ := hS; go_simp⟩) ⟨s1, s2, s3⟩ ?_
          refine wpAnyH_take (i := 6) (v := .pointer (some ⟨t, 2, none⟩)) (fuel := 7) rfl (by kernel_rfl) (by kernel_rfl) (by kernel_rfl) (fun _ _ _ h => h) (.inl ⟨rfl, fun W hS => by obtain ⟨e2, e3, e4⟩ := hS; go_simp⟩) ⟨s1, s2, s3⟩ ?_
          refine wpAnyH_take (i := 7) (v := .slice (some ⟨g, 0, none⟩) r3.length c) (fuel := 6) rfl (by kernel_rfl) (by kernel_rfl) (by kernel_rfl) (fun _ _ _ h => h) (.inl ⟨rfl, fun W hS => by obtain ⟨e2, e3, e4⟩ := hS; go_simp⟩) ⟨s1, s2, s3⟩ ?_
          refine wpAnyH_take (i := 8) (v := .int .i64 r3.length) (fuel := 5) rfl (by kernel_rfl) (by kernel_rfl) (by kernel_rfl) (fun _ _ _ h => h) (.inl ⟨rfl, fun W hS => by obtain ⟨e2, e3, e4⟩ := hS; go_simp⟩) ⟨s1, s2, s3⟩ ?_
          refine wpAnyH_take (i := 9) (v := .int .i64 (n1 : Nat)) (fuel := 4) rfl (by kernel_rfl) (by kernel_rfl) (by kernel_rfl) (fun _ _ _ h => h) (.inl ⟨rfl, fun W hS => by obtain ⟨e2, e3, e4⟩ := hS; go_simp⟩) ⟨s1, s2, s3⟩ ?_
          refine wpAnyH_take (i := 10) (v := .pointer (some ⟨g, n1 * 2, none⟩)) (fuel := 3) rfl (by kernel_rfl) (by kernel_rfl) (by kernel_rfl) (fun _ _ _ h => h) (.inl ⟨rfl, fun W hS => by obtain ⟨e2, e3, e4⟩ := hS; go_simp⟩) ⟨s1, s2, s3⟩ ?_
          refine wpAnyH_take (i := 11) (v := .agg #[.slice Pe le.length ce, .int .i64 nx]) (fuel := 2) rfl (by kernel_rfl) (by kernel_rfl) (by kernel_rfl) (fun _ _ _ h => h) (.inl ⟨rfl, fun W hS => by obtain ⟨e2, e3, e4⟩ := hS; go_simp⟩) ⟨s1, s2, s3⟩ ?_
          refine wpAnyH_one (i := 12) (fuel := 1) rfl (by kernel_rfl) rfl fun K' hK => ?_
          go_simp
          have xa := (Ext.refl Y.drew).alloc (.cells #[.slice none 0 0, .int .i64 0] 34)
          have hbb := BoxN.new Y.drew 34 #[.slice none 0 0, .int .i64 0]
          refine hK _ _ ⟨xa.cell s1, xa.cell s2, xa.cell s3⟩ ?_
          clear hK K'
          refine wpAnyH_one (i := 13) (fuel := 0) rfl (by kernel_rfl) rfl fun K' hK => ?_
          have b0 := hbb.cell (i := 0) rfl
          have b1 := hbb.cell (i := 1) rfl
          have q0 := hbb.frozen 0
          have q1 := hbb.frozen 1
          go_simp
          have xf := (Ext.refl Y.drew).alloc (.cells #[.slice Pe le.length ce, .int .i64 nx] 34)
          have hbf := BoxN.new Y.drew 34 #[.slice Pe le.length ce, .int .i64 nx]
          refine hK _ (Y.drew.alloc (.cells #[.slice Pe le.length ce, .int .i64 nx] 34)) ⟨xf.cell s1, xf.cell s2, xf.cell s3⟩ ?_
          clear hK K' hbb b0 b1 q0 q1 xa
          refine wpAnyH_done (by kernel_rfl) ?_ 0
          refine NoPanic.normal ?_
          have b0 := hbf.cell (i := 0) rfl
          rw [show Y.drew.heap.size = wr.heap.size from hszY] at b0
          have hctZ := (hctY.ext (Ext.refl _).drew).ext xf
          have hxZ := (hxY.trans (Ext.refl _).drew).trans xf
          have a2Z := hctZ.box.cell (i := 2) rfl
          have f2Z := hctZ.box.frozen 2
          clear hbf xf s1 s2 s3 hfz
          generalize (Y.drew.alloc (.cells #[.slice Pe le.length ce, .int .i64 nx] 34)) = Z at *
          by_cases hz : le.length = 0
          · have cz : ¬ (0 : Int) < le.length := by omega
            have hle0 : le = [] := List.length_eq_zero_iff.1 hz
            have HTS := Lib.hid (show trimE h (rj.length - h) T2 = trimE h gp (T3.take n1) from by
              rw [HTE.out]
              conv => lhs; unfold trimE
              rw [if_pos ⟨by have := HN1.out; rw [HT3.out]; omega, by rw [HBK.out, hle0]; rfl⟩, HT3.out, Nat.add_sub_cancel])
            have hfv := front_value g r3.length c n1 (by have := hctZ.own.tight (by omega); obtain ⟨_, _, e, _, _, h1, _⟩ := this; injection e with _ _ e; omega) 2 31 (by kernel_rfl) (by kernel_rfl)
            have hn1r : n1 ≤ r3.length := by omega
            have hcut := hctZ.cut n1 hn1r
            obtain ⟨H9, u9⟩ := hcut
            have HI9 := Lib.hid (show FI W1 _ F t h r g c (T3.take n1) (r3.take n1) F3 from ⟨by rw [absT_take, habs], H9, HI.out.f1, HI.out.f2, ((HI.out.u.trans (UpdF.of_ext (hxZ) F))).trans_new u9 HI.out.f2⟩)
            have HLT := Lib.hid (show (r3.take n1).length = n1 from by rw [List.length_take]; omega)
            subst hle0
            clear hz H9 u9 habs
            go_wp2_with (fail)
            go_still_tail 14, (by kernel_rfl)
            go_wp2_with (fail)
            go_roundg gp
            case measure => omega
            case rel => exact ⟨_, _, _, by have := HN1.out; rw [HLT.out]; omega, by rw [HLT.out]; omega, HTS.out, HI9.out.ext (Ext.refl _).drew⟩
          · have cz : (0 : Int) < le.length := by omega
            have cz2 : 0 < le.length := by omega
            have HF := Lib.hid (show absT r3 = trimE h (rj.length - h) T2 from by
              rw [HTE.out, habs]
              unfold trimE
              rw [if_neg]
              rintro ⟨_, h2⟩
              rw [HBK.out] at h2
              exact hz (by have := congrArg List.length h2; simpa using this))
            clear hz
            go_wp2_with (fail)
            refine bodyPost_ret (results_none rfl _ _ _) rfl ⟨rfl, r3, ?_, (HC.out _ _ _ _ HI.out).ext hxZ⟩
            rw [HF.out, HT2.out, HTR.out]
end
section
open Go.RowKit Go.Maps
set_option linter.unusedVariables false
set_option maxRecDepth 20000
set_option linter.unusedSimpArgs false
set_option linter.unusedSectionVars false
set_option maxRecDepth 100000
attribute [local go_sem] Oper.semAt_some

theorem erase_map {α β : Type} (f : α → β) : ∀ (l : List α) (j : Nat), (l.map f).eraseIdx j = (l.eraseIdx j).map f
  | [], j => by simp
  | x :: l, 0 => by simp
  | x :: l, j + 1 => by simp [erase_map f l j]
def remI (m : List Hd) (row : List Vl) (k : Int) : Nat := m.findIdx fun x => decide (x.1 = row) && decide (x.2 = k)
def remE (h : Nat) (T : List (Bkt Hd)) (row : List Vl) (k : Int) : Int := if askB row k = false then 1 else if remI (runE T (homeV row % h)) row k < (runE T (homeV row % h)).length then 0 else 8
def remT (h r : Nat) (T : List (Bkt Hd)) (row : List Vl) (k : Int) : List (Bkt Hd) := if remE h T row k = 0 then remF h r T (homeV row % h) (remI (runE T (homeV row % h)) row k) else T
theorem rem_at {m : List Hd} {row : List Vl} {k : Int} (hn : m.Nodup) {j : Nat} (hj : m[j]? = some (row, k)) : remI m row k = j := by
  have hjl := (List.getElem?_eq_some_iff.1 hj).1
  have hlt : remI m row k < m.length := List.findIdx_lt_length_of_exists ⟨(row, k), List.mem_of_getElem? hj, by simp⟩
  have hp := List.findIdx_getElem (p := fun x : Hd => decide (x.1 = row) && decide (x.2 = k)) (w := hlt)
  simp only [Bool.and_eq_true, decide_eq_true_iff] at hp
  have h1 : m[remI m row k] = (row, k) := Prod.ext hp.1 hp.2
  have h2 : m[j] = (row, k) := (List.getElem?_eq_some_iff.1 hj).2
  exact (List.getElem_inj hn).1 (h1.trans h2.symm)
theorem rem_no {m : List Hd} {row : List Vl} {k : Int} (hn : (row, k) ∉ m) : ¬ remI m row k < m.length := fun hlt => by
  have hp := List.findIdx_getElem (p := fun x : Hd => decide (x.1 = row) && decide (x.2 = k)) (w := hlt)
  simp only [Bool.and_eq_true, decide_eq_true_iff] at hp
  exact hn (by
    have : m[remI m row k] = (row, k) := Prod.ext hp.1 hp.2
    rw [← this]
    exact List.getElem_mem _)
theorem FullT.run_nd {h r : Nat} {T : List (Bkt Hd)} (F : FullT hdV hdH h r T) {k : Nat} (hk : k < h) : (runE T k).Nodup := by
  obtain ⟨R, L, F⟩ := F
  rw [F.run_eq hk]
  exact F.nod k hk
theorem remT_no {h r : Nat} {T : List (Bkt Hd)} {row : List Vl} {k : Int} (he : remE h T row k ≠ 0) : remT h r T row k = T := by
  unfold remT
  rw [if_neg he]
theorem remT_yes {h r : Nat} {T : List (Bkt Hd)} {row : List Vl} {k : Int} (h1 : askB row k = true) {j : Nat} (hj : remI (runE T (homeV row % h)) row k = j) (h2 : j < (runE T (homeV row % h)).length) : remE h T row k = 0 ∧ remT h r T row k = remF h r T (homeV row % h) j := by
  have he : remE h T row k = 0 := by
    unfold remE
    rw [if_neg (by rw [h1]; decide), if_pos (by omega)]
  exact ⟨he, by unfold remT; rw [if_pos he, hj]⟩
theorem remT_full {h r : Nat} {T : List (Bkt Hd)} (F : FullT hdV hdH h r T) (row : List Vl) (k : Int) : FullT hdV hdH h r (remT h r T row k) := by
  by_cases he : remE h T row k = 0
  · unfold remT
    rw [if_pos he]
    have hk : homeV row % h < h := Nat.mod_lt _ (by have := F.hh; omega)
    refine (F.less hk ?_).2
    unfold remE at he
    by_cases h1 : askB row k = false
    · rw [if_pos h1] at he; cases he
    · rw [if_neg h1] at he
      by_cases h2 : remI (runE T (homeV row % h)) row k < (runE T (homeV row % h)).length
      · exact h2
      · rw [if_neg h2] at he; cases he
  · rw [remT_no he]; exact F
theorem trimE_len {α : Type} (h : Nat) : ∀ (n : Nat) (T : List (Bkt α)), (trimE h n T).length ≤ T.length
  | 0, T => Nat.le_refl _
  | n + 1, T => by
    unfold trimE
    split
    · refine Nat.le_trans (trimE_len h n _) ?_
      rw [List.length_take]; omega
    · exact Nat.le_refl _
theorem remT_len {h r : Nat} {T : List (Bkt Hd)} (F : FullT hdV hdH h r T) (row : List Vl) (k : Int) : (remT h r T row k).length ≤ T.length := by
  by_cases he : remE h T row k = 0
  · unfold remT
    rw [if_pos he]
    have hk : homeV row % h < h := Nat.mod_lt _ (by have := F.hh; omega)
    have h2 : remI (runE T (homeV row % h)) row k < (runE T (homeV row % h)).length := by
      unfold remE at he
      by_cases h1 : askB row k = false
      · rw [if_pos h1] at he; cases he
      · rw [if_neg h1] at he
        by_cases h2 : remI (runE T (homeV row % h)) row k < (runE T (homeV row % h)).length
        · exact h2
        · rw [if_neg h2] at he; cases he
    rw [← (F.less hk h2).1]
    refine Nat.le_trans (trimE_len ..) ?_
    rw [fillF_len]
    exact Nat.le_refl _
  · rw [remT_no he]; exact Nat.le_refl _
set_option maxHeartbeats 8000000 in
theorem remove_any (F : Nat → Prop) (t h r : Nat) (P : Option Addr) (c : Nat) (raw : List BkR) (Pr : Option Addr) (cr : Nat) (row : List Vl) (k : Int) (w : World) (H : CtO w F t h r P c raw) (hT : FullT hdV hdH h r (absT raw)) (hl : raw.length ≤ 4000) (ht : Tab w) (hs : SlV w Pr cr row) :
    Calls Tryd.prog 19 #[.pointer (some ⟨t, 0, none⟩), .slice Pr row.length cr, .int .i64 k] w fun e w' => e = .returned (.int .i64 (remE h (absT raw) row k)) ∧ ∃ raw', absT raw' = remT h r (absT raw) row k ∧ CtS w F t h r raw' w' := by
  have hR := H.ctr (by omega) hT.ents_le
  have hhh := hT.hh
  have hk0 : homeV row % h < h := Nat.mod_lt _ (by omega)
  have hA := asked_any t Pr cr row k w hs
  by_cases hask : askB row k = true
  · have hml := runR_len hT hk0
    have hrows := runR_rows hT hk0 hR.sl
    have habs := runR_abs hT hk0
    have hWi := fun W (hx : Ext w W) => with_any t h r P c raw Pr cr row W (hR.ext hx) hT (ht.ext hx) (hs.ext hx)
    have hHo := fun W (hx : Ext w W) => home_any Pr cr row h W (hs.ext hx) (by omega) (by omega) (ht.ext hx)
    have hFi := fun W F2 P2 c2 raw2 Q d m (H2 : CtO W F2 t h r P2 c2 raw2) (e : raw2 = raw) => fill_any F2 t h r P2 c2 raw2 (homeV row % h) Q d m W H2 (e ▸ hT) (by rw [e]; exact hl) hk0
    have hnd := hT.run_nd hk0
    have HLS := fun (i : Nat) (hi : i < (runE (absT raw) (homeV row % h)).length) => Lib.hid (hT.less (i := i) hk0 hi).1
    have HRY := fun (j : Nat) (hj : remI (runE (absT raw) (homeV row % h)) row k = j) (h2 : j < (runE (absT raw) (homeV row % h)).length) => Lib.hid (remT_yes (r := r) (T := absT raw) hask (j := j) hj h2)
    have HNO := Lib.hid (fun (hn : (row, k) ∉ runE (absT raw) (homeV row % h)) => (show remE h (absT raw) row k = 8 from by
      unfold remE
      rw [if_neg (by rw [hask]; decide), if_neg (rem_no hn)]))
    have HRO := Lib.hid (show ∀ y ∈ runR raw (homeV row % h), Off F y.1.1 y.1.2.2 from fun y hy => by
      obtain ⟨b, hb, hy⟩ := List.mem_flatMap.1 hy
      have hbl : b < raw.length := by
        have := way_lt (hT.way hk0) b hb
        rwa [absT_len] at this
      exact (H.rows _ (nthBk_mem hbl) y hy).2.2)
    rw [hask] at hA
    generalize homeV row % h = kk at *
    generalize hm0 : runR raw kk = m at *
    have hAl := alikeN_le m row m.length
    have HDK := Lib.hid (dup_key (m := m) (row := row) (k := k))
    have HIN := Lib.hid (alikeN_in (m := m) (row := row))
    have HAM := Lib.hid (show ∀ j : Nat, (j : Int) ∈ alikeN m row m.length → j < m.length ∧ (nthH m j).1.2.2 = row from fun j hj => alikeN_mem.1 hj)
    rw [← habs] at hnd HRY HNO HLS
    have HND := Lib.hid hnd
    generalize alikeN m row m.length = A at *
    have HH := Lib.hid H
    have HHT := Lib.hid hT
    clear hm0 habs hask H hs hT hnd
    go_enter Tryd.func19, Tryd.ntmps19
    go_wp2_with (go_at_call 35; refine hA.mono ?_; rintro e w1 ⟨rfl, hx1⟩)
    go_at_call 36
    refine (hWi _ hx1).mono ?_
    rintro e w2 ⟨⟨P1, c1, v2, rfl, ho1, ho2⟩, hx2⟩
    obtain ⟨P2, c2, rfl, hs2⟩ := ho2.slG elemI (by omega)
    dsimp only
    have hx02 := hx1.trans hx2
    obtain ⟨P1', c1', e1, hsl⟩ := SlH.of_own ho1 (by omega) (fun x hx => ⟨((hrows x hx).1).ext hx02, (hrows x hx).2⟩)
    injection e1 with e1 _ e2
    subst e1 e2
    have HO1 := Lib.hid (ho1.lower hx1.size)
    clear ho1 ho2 hWi
    go_wp2_with (fail)
    go_loopw [27, 11] (fun i _ wr => ∃ q : Nat, q ≤ A.length ∧ i = .int .i64 q ∧ wr = w2 ∧ Hid (∀ y : Nat, y < q → ∀ j : Nat, A[y]? = some (j : Int) → (nthH m j).2 ≠ k)) (fun i _ _ => A.length - (intOf i).toNat)
    case atStart => exact ⟨0, by omega, rfl, rfl, Lib.hid (fun y hy => by omega)⟩
    case round =>
      obtain ⟨q, hq, rfl, hwr, ha⟩ := hrel
      subst hwr
      by_cases hlt : q < A.length
      · obtain ⟨b1, o1, hP2, g1⟩ := hs2.intAt q hlt
        subst hP2
        have hAq : A[q]? = some (A.getD q 0) := by simp [List.getD_eq_getElem?_getD, hlt]
        obtain ⟨j, hj, hjm⟩ := HIN.out _ (List.mem_of_getElem? hAq)
        rw [hj] at g1 hAq
        obtain ⟨b3, o3, hP1, g3, g4⟩ := hsl.at_ j hjm
        obtain ⟨g, cc, hPg, hgb, _⟩ := HO1.out.tight (by omega)
        injection hPg with hPg _ hPc
        subst hPg hPc
        injection hP1 with hP1
        injection hP1 with hb3 ho3
        subst hb3 ho3
        simp only [Nat.zero_add] at g4
        have a0 := (hR.box.ext hx02).cell (i := 0) rfl
        have HAQ := Lib.hid hAq
        have cA : (q : Int) < A.length := by omega
        have d1 : IntKind.i64.wrap ((q : Int) + 1) = (q : Int) + 1 := IntWalk.i64_in _ ⟨by omega, by omega⟩
        have cj1 : (j : Int) < m.length := by omega
        have cj0 : (0 : Int) ≤ (j : Int) := by omega
        have d2 : IntKind.i64.wrap ((j : Int) + 1) = (j : Int) + 1 := IntWalk.i64_in _ ⟨by omega, by omega⟩
        clear hAq hj g3
        by_cases he : (nthH m j).2 = k
        · rw [he] at g4
          have HE := Lib.hid he
          have hmj : m[j]? = some (nthH m j) := nthH_some hjm
          have hmj2 : (m.map hdA)[j]? = some (row, k) := by
            rw [List.getElem?_map, hmj]
            show some ((nthH m j).1.2.2, (nthH m j).2) = _
            rw [(HAM.out j (List.mem_of_getElem? HAQ.out)).2, he]
          have HR1 := Lib.hid (HRY j (rem_at HND.out hmj2) (by rw [List.length_map]; exact hjm)).out
          have HL1 := Lib.hid (HLS j (by rw [List.length_map]; exact hjm)).out
          have hel : (m.eraseIdx j).length = m.length - 1 := by rw [List.length_eraseIdx, if_pos hjm]
          clear he hmj hmj2 HRY HLS HNO
          go_wp2_with (go_at_call 21; refine (hHo _ hx02).mono ?_; rintro e w3 ⟨rfl, x3⟩)
          have hx03 := hx02.trans x3
          go_at_call 42
          refine (delete_any m g c1 w.heap.size j w3 (by omega) hjm (OwnG.ext HO1.out x3)).mono ?_
          rintro e w4 ⟨rfl, ho4, hu4⟩
          have hu4F := UpdF.of_upd hu4
          have hgF : ¬ F g := fun e => by have := HH.out.Flt g e; omega
          have hrow4 : ∀ y ∈ m.eraseIdx j, SlV w4 y.1.1 y.1.2.1 y.1.2.2 ∧ (y.1.1 = none → y.1.2.1 = 0) := fun y hy => by
            have h1 := hrows y (List.mem_of_mem_eraseIdx hy)
            exact ⟨(h1.1.ext hx03).upd hu4F ((h1.1.lt vl_pos).mono (fun i hi => by omega)), h1.2⟩
          have hO4 : OwnG csHd 36 2 w4 w.heap.size (.slice (some ⟨g, 0, none⟩) (m.eraseIdx j).length c1) (m.eraseIdx j) := by rw [hel]; rw [← hel] at ho4; unfold OwnG; rw [hel] at ho4; rw [hel]; exact ho4
          obtain ⟨P5, c5, e5, hs5⟩ := SlH.of_own hO4 (by omega) hrow4
          injection e5 with e5 _ e6
          subst e5 e6
          have hct4 := (HH.out.ext hx03).upd hu4F (fun k hk e => hgF (e ▸ hk)) (fun x hx y hy => ((HH.out.rows x hx y hy).1.lt vl_pos).mono (fun i hi => by omega))
          have hFill := hFi w4 F _ _ raw (some ⟨g, 0, none⟩) c1 (m.eraseIdx j) hct4 rfl hs5 (by omega) ⟨fun _ b off e hb => by
            injection e with e
            injection e with e
            exact hgF (e ▸ hb), fun y hy => HRO.out y (List.mem_of_mem_eraseIdx hy)⟩
          rw [hel] at hFill
          dsimp only
          go_wp2_with (go_at_call 41; refine hFill.mono ?_; rintro e w5 ⟨rfl, hres⟩; have HRES := Lib.hid hres; clear hres)
          go_ret
          obtain ⟨raw', e1, e2⟩ := HRES.out
          refine ⟨by rw [HR1.out.1]; rfl, raw', ?_, CtS.trans ((UpdF.of_ext hx03 F).trans_new hu4F (fun i hi => .inr (by omega))) (fun _ h => h) (fun _ h => .inl h) e2⟩
          rw [e1, HR1.out.2, ← HL1.out, erase_map]
        · have HN := Lib.hid (show ∀ y : Nat, y < q + 1 → ∀ j : Nat, A[y]? = some (j : Int) → (nthH m j).2 ≠ k from fun y hy j' hj' => by
            by_cases hyq : y = q
            · subst hyq
              rw [HAQ.out] at hj'
              injection hj' with hj'
              obtain rfl : j = j' := by omega
              exact he
            · exact ha.out y (by omega) j' hj')
          clear ha
          generalize (nthH m j).2 = kj at *
          go_wp2_with (fail)
          go_roundw
          case rel => exact ⟨q + 1, by omega, by go_num, by first | trivial | rfl, HN⟩
          case measure => simp [intOf]; omega
      · obtain rfl : q = A.length := by omega
        have HE := Lib.hid (HNO.out (fun hm => by
          obtain ⟨j, hjA, hjk⟩ := HDK.out.1 hm
          obtain ⟨y, hy⟩ := List.mem_iff_getElem?.1 hjA
          exact ha.out y (List.getElem?_eq_some_iff.1 hy).1 j hy hjk))
        clear HNO ha
        go_wp2_with (fail)
        go_ret
        exact ⟨by rw [HE.out]; rfl, raw, (remT_no (by rw [HE.out]; decide)).symm, CtS.of_ext HH.out hx02⟩
  · have hask' : askB row k = false := by simpa using hask
    rw [hask'] at hA
    have HE := Lib.hid (show remE h (absT raw) row k = 1 from by unfold remE; rw [if_pos hask'])
    clear hask hask'
    go_enter Tryd.func19, Tryd.ntmps19
    go_wp2_with (go_at_call 35; refine hA.mono ?_; rintro e w1 ⟨rfl, hx1⟩)
    go_ret
    exact ⟨by rw [HE.out]; rfl, raw, (remT_no (by rw [HE.out]; decide)).symm, CtS.of_ext H hx1⟩
end
section
open Go.RowKit Go.Maps
set_option linter.unusedVariables false
set_option maxRecDepth 20000
set_option linter.unusedSimpArgs false
set_option linter.unusedSectionVars false
set_option maxRecDepth 100000
attribute [local go_sem] Oper.semAt_some

/-- how many entries the first runs hold -/
def lenE (T : List (Bkt Hd)) (i : Nat) : Nat := (allE i T).length
theorem allE_succ (T : List (Bkt Hd)) (i : Nat) : allE (i + 1) T = allE i T ++ runE T i := by
  unfold allE
  rw [List.range_succ, List.flatMap_append]
  simp
theorem lenE_succ (T : List (Bkt Hd)) (i : Nat) : lenE T (i + 1) = lenE T i + (runE T i).length := by
  unfold lenE
  rw [allE_succ, List.length_append]
theorem allE_at (T : List (Bkt Hd)) : ∀ (h i : Nat), i < h → ∀ q, q < (runE T i).length → (allE h T)[lenE T i + q]? = (runE T i)[q]?
  | 0, i, hi, q, hq => by omega
  | h + 1, i, hi, q, hq => by
    rw [allE_succ]
    by_cases e : i = h
    · subst e
      rw [List.getElem?_append_right (by unfold lenE; omega)]
      congr 1
      unfold lenE
      omega
    · have h1 := allE_at T h i (by omega) q hq
      have h2 : lenE T i + q < (allE h T).length := by
        rw [List.getElem?_eq_getElem hq] at h1
        exact (List.getElem?_eq_some_iff.1 h1).1
      rw [List.getElem?_append_left h2]
      exact h1
/-- as CtS, with other homes -/
def CtG (w : World) (F : Nat → Prop) (t h r : Nat) (raw : List BkR) (w' : World) : Prop := ∃ P' c' F', CtO w' F' t h r P' c' raw ∧ (∀ k, F' k → F k ∨ w.heap.size ≤ k) ∧ UpdF F w w'
theorem CtS.g {w w' : World} {F : Nat → Prop} {t h r : Nat} {raw : List BkR} (k : CtS w F t h r raw w') : CtG w F t h r raw w' := by
  obtain ⟨P', c', F', H, _, g2, g3⟩ := k
  exact ⟨P', c', F', H, g2, g3⟩
theorem CtG.ext {w w1 w2 : World} {F : Nat → Prop} {t h r : Nat} {raw : List BkR} (k : CtG w F t h r raw w1) (hx : Ext w1 w2) : CtG w F t h r raw w2 := by
  obtain ⟨P', c', F', H, g2, g3⟩ := k
  exact ⟨P', c', F', H.ext hx, g2, g3.trans (UpdF.of_ext hx F)⟩
theorem CtG.pre {w w1 w2 : World} {F : Nat → Prop} {t h r : Nat} {raw : List BkR} (hx : Ext w w1) (k : CtG w1 F t h r raw w2) : CtG w F t h r raw w2 := by
  obtain ⟨P', c', F', H, g2, g3⟩ := k
  exact ⟨P', c', F', H, fun k hk => (g2 k hk).imp id (fun e => Nat.le_trans hx.size e), (UpdF.of_ext hx F).trans g3⟩
/-- a row does not lie in a table's box -/
theorem SlV.off_box {w : World} {P : Option Addr} {c : Nat} {l : List Vl} (h : SlV w P c l) {t : Nat} {T : TypeId} {a b : Int} {Q : Option Addr} {n d : Nat} (hb : BoxN w t T #[.int .i64 a, .int .i64 b, .slice Q n d]) : Off (fun i => i = t) P l := by
  intro hne g off e hg
  subst hg
  cases l with
  | nil => exact hne rfl
  | cons x l =>
    obtain ⟨g', o, e2, h1⟩ := h.at_ 0 x rfl
    rw [e] at e2
    injection e2 with e2
    injection e2 with e3 e4
    subst e3
    have h2 := h1 2 (.string x.2.2) rfl
    have hob : w.heap[g]? = _ := hb
    rcases o with _ | o <;> simp [World.cell?, hob] at h2
/-- *t = *n -/
theorem CtO.moved {w W : World} {F Fn : Nat → Prop} {t tn h r h2 : Nat} {P Pn : Option Addr} {c cn : Nat} {raw rawn : List BkR} (H : CtO w F t h r P c raw) (N : CtO W Fn tn h2 r Pn cn rawn) (hx : Ext w W) (hn : ∀ k, Fn k → w.heap.size ≤ k) :
    CtG w F t h2 r rawn (((W.setCell ⟨t, 0, none⟩ (.int .i64 h2)).setCell ⟨t, 1, none⟩ (.int .i64 r)).setCell ⟨t, 2, none⟩ (.slice Pn rawn.length cn)) := by
  have ht := H.Flt t H.Ft
  have hbox := H.box.ext hx
  have hu := (((UpdF.refl (fun i => i = t) W).setCell (p := ⟨t, 0, none⟩) (.inl rfl) (.int .i64 h2)).setCell (p := ⟨t, 1, none⟩) (.inl rfl) (.int .i64 r)).setCell (p := ⟨t, 2, none⟩) (.inl rfl) (.slice Pn rawn.length cn)
  have hnt : ¬ Fn t := fun e => by have := hn t e; omega
  refine ⟨Pn, cn, fun k => k = t ∨ Fn k, ⟨((hbox.set 0 (.int .i64 h2)).set 1 (.int .i64 r)).set 2 (.slice Pn rawn.length cn), N.own.upd hu (fun g hg e => ?_), fun i x hi => (N.ents i x hi).upd hu (fun g hg e => ?_), fun x hx' y hy => ?_, .inl rfl, fun a ha => ⟨.inr (N.FP a ha).1, fun e => hnt (e ▸ (N.FP a ha).1)⟩, fun i x a hi ha => ?_, N.Fd, fun k hk => ?_⟩, fun k hk => ?_, (UpdF.of_ext hx F).trans_new hu (fun i hi => .inl (hi ▸ H.Ft))⟩
  · obtain ⟨a, e1, e2⟩ := slice_own hg
    exact hnt (by rw [← e, ← e2]; exact (N.FP a e1).1)
  · obtain ⟨a, e1, e2⟩ := slice_own hg
    exact hnt (by rw [← e, ← e2]; exact (N.Fe i x a hi e1).1)
  · have h1 := N.rows x hx' y hy
    have h3 := SlV.off_box h1.1 hbox
    exact ⟨h1.1.upd hu h3, h1.2.1, h3.or h1.2.2⟩
  · obtain ⟨f1, f2, f3⟩ := N.Fe i x a hi ha
    exact ⟨.inr f1, fun e => hnt (e ▸ f1), f3⟩
  · rcases hk with rfl | hk
    · exact Nat.lt_of_lt_of_le ht (Nat.le_trans hx.size hu.size)
    · exact Nat.lt_of_lt_of_le (N.Flt k hk) hu.size
  · rcases hk with rfl | hk
    · exact .inl H.Ft
    · exact .inr (hn k hk)
theorem regF_len (h r : Nat) (h1 : 1 ≤ h) (h2 : h ≤ 100) (r1 : 1 ≤ r) (r2 : r ≤ 20) {E : List Hd} (hE : E.Nodup) (hlen : E.length ≤ 500) (hV : ∀ x ∈ E, hdV x) : ∀ j, j ≤ E.length → (regF hdH h r (E.take j)).length ≤ h + j
  | 0, _ => by simp [regF, emptyT]
  | j + 1, hj => by
    have hx : E[j]? = some E[j] := List.getElem?_eq_getElem (by omega)
    obtain ⟨_, _, _, _, e, _⟩ := regF_step hdV hdH h1 h2 r1 r2 hE hlen hV hx
    rw [← e]
    have := regF_len h r h1 h2 r1 r2 hE hlen hV j (by omega)
    have h3 := putF_len h r (regF hdH h r (E.take j)) ((pathOf (regF hdH h r (E.take j)) (hdH E[j] % h)).getD ((pathOf (regF hdH h r (E.take j)) (hdH E[j] % h)).length - 1) 0) E[j]
    omega
/-- how Regrow answers, what it makes -/
def regE (h2 r : Nat) : Int := if rightB h2 r = true then 0 else 7
def regT (h h2 r : Nat) (T : List (Bkt Hd)) : List (Bkt Hd) := regF hdH h2 r (allE h T)
end
end Go.Proofs.YtcbinafokhekmaaDoor

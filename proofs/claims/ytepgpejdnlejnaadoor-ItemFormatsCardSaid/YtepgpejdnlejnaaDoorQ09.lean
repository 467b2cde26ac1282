/- ItXE; ItXF (merged by group.py) -/
import Derived.Test.YtepgpejdnlejnaaDoorQ08
import Derived.Deep.RegionHeld3
import Derived.Laws.Rows
import Derived.Laws.Tables
import Derived.Lib.AtoiAllCases
namespace Go.Proofs.YtepgpejdnlejnaaDoor
section
open Go.RowKit
set_option linter.unusedVariables false
set_option linter.unusedSimpArgs false
set_option linter.unusedSectionVars false
set_option maxRecDepth 100000
attribute [local go_sem] Oper.semAt_some

theorem next_at (R : Nat) (s : ByteArray) (n : Nat) (c : Int) (hc : byteN s n = c) (hn : n ≤ 140737488355328) (w : World) (h : Rdr w R s n) :
    Calls Tryd.prog 80 #[.pointer (some ⟨R, 0, none⟩)] w fun e w' => e = .returned (.int .u8 c) ∧ ∃ m, w' = w.drewN m := by
  subst hc
  exact next_any R s n w h hn
theorem wbyte_any (b : Nat) (l : List UInt8) (c : UInt8) (w : World) (h : Bld w b l) (hlen : l.length + 1 ≤ 140737488355328) (hbw : b ≤ w.heap.size) :
    Calls Tryd.prog 98 #[.pointer (some ⟨b, 0, none⟩), .int .u8 (c.toNat : Int)] w fun e w' => e = .returned .nilIface ∧ Bld w' b (l ++ [c]) ∧ Below b w w' := by
  refine (bbyte_any b b _ (c.toNat : Int) w h (by rw [Lib.byteCells_length]; exact hlen) hbw).mono ?_
  rintro e w' ⟨he, h1, h2, _⟩
  exact ⟨he, .inr (by rw [Lib.byteCells_append]; exact h1), h2⟩
/-- what holds in a round -/
def TxSt (w : World) (R : Nat) (s : ByteArray) (acc : List UInt8) (p : Nat) (wr : World) : Prop := Rdr wr R s p ∧ Bld wr w.heap.size acc ∧ Upd w R wr
theorem TxSt.drewN {w wr : World} {R p : Nat} {s : ByteArray} {acc : List UInt8} (h : TxSt w R s acc p wr) (m : Nat) : TxSt w R s acc p (wr.drewN m) :=
  ⟨h.1, h.2.1.ext ((Ext.refl wr).drewN m), h.2.2.trans (Upd.of_ext ((Ext.refl wr).drewN m) R)⟩
theorem TxSt.drew {w wr : World} {R p : Nat} {s : ByteArray} {acc : List UInt8} (h : TxSt w R s acc p wr) : TxSt w R s acc p wr.drew :=
  ⟨h.1, h.2.1.ext (Ext.refl wr).drew, h.2.2.trans (Upd.of_ext (Ext.refl wr).drew R)⟩
theorem TxSt.set {w wr : World} {R p : Nat} {s : ByteArray} {acc : List UInt8} (h : TxSt w R s acc p wr) (hR : R < w.heap.size) (q : Nat) (z : Int) (hz : z = (q : Int)) : TxSt w R s acc q (wr.setCell ⟨R, 1, none⟩ (.int .i64 z)) := by
  subst hz
  exact ⟨h.1.set _, h.2.1.upd (Upd.setCell _ _ _ _) hR, h.2.2.trans (Upd.setCell _ _ _ _)⟩
theorem TxSt.wrote {w wr w' : World} {R p : Nat} {s : ByteArray} {acc acc' : List UInt8} (h : TxSt w R s acc p wr) (hR : R < w.heap.size) (hb : Bld w' w.heap.size acc') (hl : Below w.heap.size wr w') : TxSt w R s acc' p w' :=
  ⟨h.1.below hl hR, hb, h.2.2.then_low hl⟩
theorem TxSt.ext {w wr w' : World} {R p : Nat} {s : ByteArray} {acc : List UInt8} (h : TxSt w R s acc p wr) (hx : Ext wr w') : TxSt w R s acc p w' :=
  ⟨h.1.ext hx, h.2.1.ext hx, h.2.2.trans (Upd.of_ext hx R)⟩
theorem TxSt.blt {w wr : World} {R p : Nat} {s : ByteArray} {acc : List UInt8} (h : TxSt w R s acc p wr) : w.heap.size ≤ wr.heap.size := h.2.2.size
theorem next_st {w : World} {R p : Nat} {s : ByteArray} {acc : List UInt8} {c : Int} (hc : byteN s p = c) (hn : p ≤ 140737488355328) (wr : World) (h : TxSt w R s acc p wr) :
    Calls Tryd.prog 80 #[.pointer (some ⟨R, 0, none⟩)] wr fun e w' => e = .returned (.int .u8 c) ∧ TxSt w R s acc p w' :=
  (next_at R s p c hc hn wr h.1).mono fun e w' ⟨he, m, hw⟩ => ⟨he, hw ▸ h.drewN m⟩
theorem TxSt.at1 {w wr : World} {R p : Nat} {s : ByteArray} {acc : List UInt8} (h : TxSt w R s acc p wr) {z : Int} (hz : (p : Int) = z) : wr.cell? ⟨R, 1, none⟩ = some (.int .i64 z) := hz ▸ h.1.n
/-- where a reader stands -/
def ptrAt (w : World) (R : Nat) : Nat := match w.cell? ⟨R, 1, none⟩ with
  | some (.int _ n) => n.toNat
  | _ => 0
theorem ptrAt_of {w : World} {R p : Nat} {s : ByteArray} (h : Rdr w R s p) : ptrAt w R = p := by
  unfold ptrAt
  rw [h.n]
  rfl
set_option maxHeartbeats 8000000 in
theorem text_rd (R : Nat) (s : ByteArray) (n : Nat) (w : World) (h : Rdr w R s n) (hn : n < s.size) (hs : s.size ≤ 1000000) (hL : LibB R w) :
    Calls Tryd.prog 104 #[.pointer (some ⟨R, 0, none⟩)] w (TextPost R s n w) := by
  have hRlt := h.lt
  have c0 := h.s
  have c1 := h.n
  have f1 := h.free
  have d0 : IntKind.i64.wrap ((n : Int) + 1) = (n : Int) + 1 := IntWalk.i64_in _ ⟨by omega, by omega⟩
  have hne : ¬ w.heap.size = R := by omega
  have hne2 : ¬ R = w.heap.size := by omega
  go_enter Tryd.func104, Tryd.ntmps104
  go_wp2
  clear c0 c1 f1 d0
  go_loopw [4] (fun _ wr => ∃ (p : Nat) (acc : List UInt8), TxRel s n acc p ∧ TxSt w R s acc p wr) (fun _ wr => s.size + 1 - ptrAt wr R)
  case atStart =>
    refine ⟨n + 1, [], TxRel.start s n hn, ?_⟩
    have hsz : (w.setCell ⟨R, 1, none⟩ (.int .i64 ((n : Int) + 1))).heap.size = w.heap.size := by simp [World.setCell]
    have hb := Lib.IsBuilderF.of (Lib.fresh_isBuilder BldT 5 (w.setCell ⟨R, 1, none⟩ (.int .i64 ((n : Int) + 1))))
    rw [hsz] at hb
    have hr := h.set ((n : Int) + 1)
    rw [show (n : Int) + 1 = ((n + 1 : Nat) : Int) from by omega] at hr hb ⊢
    exact ⟨hr.ext ((Ext.refl _).alloc _), hb, (Upd.setCell _ _ _ _).trans (Upd.of_ext ((Ext.refl _).alloc _) R)⟩
  case round =>
    obtain ⟨p, acc, hrel, hst⟩ := hrel
    have hps : p ≤ s.size + 1 := by obtain ⟨f, _, h, _⟩ := hrel; exact h
    have hal : acc.length ≤ p := by obtain ⟨f, _, _, h, _⟩ := hrel; exact h
    have hmeas : ptrAt wr R = p := ptrAt_of hst.1
    have c0 := hst.1.s
    have c1 := hst.1.n
    have f1 := hst.1.free
    have hbw := hst.blt
    have d0 : IntKind.i64.wrap ((p : Int) + 1) = (p : Int) + 1 := IntWalk.i64_in _ ⟨by omega, by omega⟩
    by_cases hlt : p < s.size
    · have e0 := byteU_Nall s p
      by_cases q1 : byteU s p = 34
      · rw [q1] at e0
        have hF := Lib.hid (hrel.close hlt q1)
        have hN := fun W hW => next_st (w := w) (R := R) (acc := acc) e0 (by omega) W hW
        clear hrel q1 e0 hmeas
        go_wp2_with (fail)
        go_at_call 80
        refine (hN _ hst).mono ?_
        rintro e w1 ⟨rfl, hst1⟩
        have k1 := hst1.1.n
        have k2 := hst1.1.free
        have hst2 := hst1.set hRlt (p + 1) ((p : Int) + 1) (by omega)
        dsimp only
        go_wp2_with (fail)
        go_at_call 101
        refine (Tryd.Builder_String_any_k w.heap.size w.heap.size acc _ hst2.2.1 hst2.blt).mono ?_
        rintro e w2 ⟨rfl, hb2, hlo2, _⟩
        dsimp only
        go_wp2
        go_ret
        have hst3 := hst2.wrote hRlt hb2 hlo2
        exact ⟨hst3.2.2, .inl ⟨acc, p + 1, hF.out, by omega, rfl, hst3.1⟩⟩
      · have c5 : decide ((s.size : Int) ≤ (p : Int)) = false := decide_eq_false (by omega)
        by_cases q2 : byteU s p = 92
        · rw [q2] at e0
          have hN := fun W hW => next_st (w := w) (R := R) (acc := acc) e0 (by omega) W hW
          have e1 := byteU_Nall s (p + 1)
          have d1 : IntKind.i64.wrap ((p : Int) + 1 + 1) = (p : Int) + 2 := by rw [IntWalk.i64_in _ ⟨by omega, by omega⟩]; omega
          have d2 : IntKind.i64.wrap ((p : Int) + 1 + 2) = (p : Int) + 3 := by rw [IntWalk.i64_in _ ⟨by omega, by omega⟩]; omega
          have d3 : IntKind.i64.wrap ((p : Int) + 1 + 3) = (p : Int) + 4 := by rw [IntWalk.i64_in _ ⟨by omega, by omega⟩]; omega
          have d4 : IntKind.i64.wrap ((p : Int) + 3 + 1) = (p : Int) + 4 := by rw [IntWalk.i64_in _ ⟨by omega, by omega⟩]; omega
          by_cases q3 : byteU s (p + 1) = 120
          · rw [q3] at e1
            have hN2 := fun W hW => next_st (w := w) (R := R) (acc := acc) e1 (by omega) W hW
            by_cases q4 : p + 3 < s.size
            · have c4 : decide ((s.size : Int) ≤ (p : Int) + 3) = false := decide_eq_false (by omega)
              have hsl := fun W => str_two s (p + 2) (by omega) W
              rw [show ((p + 2 : Nat) : Int) = (p : Int) + 2 from by omega, show (p : Int) + 2 + 2 = (p : Int) + 4 from by omega, show p + 2 + 1 = p + 3 from rfl] at hsl
              cases hv : hexV 0 [byteU s (p + 2), byteU s (p + 3)] with
              | none =>
                have hF := Lib.hid (hrel.bad hlt q2 q3 q4 hv)
                have hP := fun W hW => uint16_no ⟨#[byteU s (p + 2), byteU s (p + 3)]⟩ rfl hv W hW
                obtain ⟨b1, hb1⟩ : ∃ b, byteU s (p + 2) = b := ⟨_, rfl⟩
                obtain ⟨b2, hb2⟩ : ∃ b, byteU s (p + 3) = b := ⟨_, rfl⟩
                rw [hb1, hb2] at hP hsl
                clear hrel q1 q2 q3 q4 e0 e1 hv hb1 hb2 hmeas d4
                go_wp2_with (fail)
                go_at_call 80
                refine (hN _ hst).mono ?_
                rintro e w1 ⟨rfl, hst1⟩
                have a0 := hst1.1.s
                have a1 := hst1.1.n
                dsimp only
                go_wp2
                go_quiet (fail)
                have hst2 := hst1.drewN nq
                go_wp2_with (fail)
                go_at_call 80
                refine (hN _ hst2).mono ?_
                rintro e w2 ⟨rfl, hst3⟩
                have b1 := hst3.1.n
                have b2 := hst3.1.free
                dsimp only
                have hst4 := hst3.set hRlt (p + 1) ((p : Int) + 1) (by omega)
                go_wp2_with (fail)
                go_at_call 80
                refine (hN2 _ hst4).mono ?_
                rintro e w3 ⟨rfl, hst5⟩
                have k0 := hst5.1.s
                have k1 := hst5.at1 (z := (p : Int) + 1) (by omega)
                dsimp only
                go_wp2
                go_quiet (fail)
                have hst6 := hst5.drewN nq
                clear k0 k1
                generalize w3.drewN nq = W4 at *
                have k0 := hst6.1.s
                have k1 := hst6.at1 (z := (p : Int) + 1) (by omega)
                have hlib := hL.kept (hst6.2.2.low (Nat.le_refl R) (by omega))
                go_wp2
                have hPd := hP W4.drew hlib.1.syn
                go_region_held3 (fun w' => w'.cell? ⟨R, 0, none⟩ = some (.string s) ∧ w'.cell? ⟨R, 1, none⟩ = some (.int .i64 ((p : Int) + 1))) (go_keep)
                  (first
                    | (go_at_call 115; refine hPd.mono ?_; rintro e w5 ⟨N5, rfl, hx5⟩; have y0 := hx5.cell k0; have y1 := hx5.cell k1)
                    | fail)
                have hst7 := hst6.drew.ext hx5
                go_wp2
                exact ⟨rfl, hst7.2.2, .inr ⟨hF.out, rfl⟩⟩
              | some v =>
                have hR2 := Lib.hid (hrel.hex hlt q2 q3 q4 hv)
                have hv256 := hexV_lt _ _ _ hv
                have hP := fun W => uint16_ok ⟨#[byteU s (p + 2), byteU s (p + 3)]⟩ rfl v hv W
                obtain ⟨b1, hb1⟩ : ∃ b, byteU s (p + 2) = b := ⟨_, rfl⟩
                obtain ⟨b2, hb2⟩ : ∃ b, byteU s (p + 3) = b := ⟨_, rfl⟩
                rw [hb1, hb2] at hP hsl
                have hv8 : ((UInt8.ofNat v).toNat : Int) = (v : Int) := by
                  have : (UInt8.ofNat v).toNat = v := by simp; omega
                  rw [this]
                have d5 : IntKind.u8.wrap (v : Int) = (v : Int) := by simp [IntKind.wrap, IntKind.bits, IntKind.signed]; omega
                obtain ⟨x, hx⟩ : ∃ x, UInt8.ofNat v = x := ⟨_, rfl⟩
                rw [hx] at hv8 hR2
                clear hrel q1 q2 q3 q4 e0 e1 hv hb1 hb2 hx
                go_wp2_with (fail)
                go_at_call 80
                refine (hN _ hst).mono ?_
                rintro e w1 ⟨rfl, hst1⟩
                have a0 := hst1.1.s
                have a1 := hst1.1.n
                dsimp only
                go_wp2
                go_quiet (fail)
                have hst2 := hst1.drewN nq
                go_wp2_with (fail)
                go_at_call 80
                refine (hN _ hst2).mono ?_
                rintro e w2 ⟨rfl, hst3⟩
                have b1 := hst3.1.n
                have b2 := hst3.1.free
                dsimp only
                have hst4 := hst3.set hRlt (p + 1) ((p : Int) + 1) (by omega)
                go_wp2_with (fail)
                go_at_call 80
                refine (hN2 _ hst4).mono ?_
                rintro e w3 ⟨rfl, hst5⟩
                have k0 := hst5.1.s
                have k1 := hst5.at1 (z := (p : Int) + 1) (by omega)
                dsimp only
                go_wp2
                go_quiet (fail)
                have hst6 := hst5.drewN nq
                clear k0 k1
                generalize w3.drewN nq = W4 at *
                have k0 := hst6.1.s
                have k1 := hst6.at1 (z := (p : Int) + 1) (by omega)
                have hlib := hL.kept (hst6.2.2.low (Nat.le_refl R) (by omega))
                go_wp2
                have hPd := hP W4.drew
                go_region_held3 (fun w' => w'.cell? ⟨R, 0, none⟩ = some (.string s) ∧ w'.cell? ⟨R, 1, none⟩ = some (.int .i64 ((p : Int) + 1))) (go_keep)
                  (first
                    | (go_at_call 115; refine hPd.mono ?_; rintro e w5 ⟨rfl, hx5⟩; have y0 := hx5.cell k0; have y1 := hx5.cell k1)
                    | fail)
                have hst7 := hst6.drew.ext hx5
                have hW := fun W hb hl hb2 => wbyte_any w.heap.size acc x W hb hl hb2
                rw [hv8] at hW
                go_wp2_with (fail)
                go_at_call 98
                refine (hW _ hst7.2.1 (by omega) hst7.blt).mono ?_
                rintro e w7 ⟨rfl, hb7, hlo7⟩
                have hst8 := hst7.wrote hRlt hb7 hlo7
                have k3 := hst8.at1 (z := (p : Int) + 1) (by omega)
                have k4 := hst8.1.free
                have hst9 := (hst8.set hRlt (p + 3) ((p : Int) + 3) (by omega)).set hRlt (p + 4) ((p : Int) + 4) (by omega)
                dsimp only
                go_wp2
                go_roundw
                case rel => exact ⟨p + 4, _, hR2.out, hst9⟩
                case measure => rw [ptrAt_of hst9.1, hmeas]; omega
            · have c4 : (s.size : Int) ≤ (p : Int) + 3 := by omega
              have hF := Lib.hid (hrel.short hlt q2 q3 q4)
              clear hrel q1 q2 q3 q4 e0 e1 hmeas
              go_wp2_with (fail)
              go_at_call 80
              refine (hN _ hst).mono ?_
              rintro e w1 ⟨rfl, hst1⟩
              have a0 := hst1.1.s
              have a1 := hst1.1.n
              dsimp only
              go_wp2
              go_quiet (fail)
              have hst2 := hst1.drewN nq
              go_wp2_with (fail)
              go_at_call 80
              refine (hN _ hst2).mono ?_
              rintro e w2 ⟨rfl, hst3⟩
              have b1 := hst3.1.n
              have b2 := hst3.1.free
              dsimp only
              have hst4 := hst3.set hRlt (p + 1) ((p : Int) + 1) (by omega)
              go_wp2_with (fail)
              go_at_call 80
              refine (hN2 _ hst4).mono ?_
              rintro e w3 ⟨rfl, hst5⟩
              have k0 := hst5.1.s
              have k1 := hst5.at1 (z := (p : Int) + 1) (by omega)
              dsimp only
              go_wp2
              go_quiet (fail)
              go_wp2
              exact ⟨rfl, (hst5.drewN _).2.2, .inr ⟨hF.out, rfl⟩⟩
          · have hN2 := fun W hW => next_st (w := w) (R := R) (acc := acc) e1 (by omega) W hW
            have hR2 := Lib.hid (hrel.esc hlt q2 q3)
            have n120 : ¬ ((byteU s (p + 1)).toNat : Int) = 120 := fun e => q3 (UInt8.toNat_inj.1 (by have : (120 : UInt8).toNat = 120 := rfl; omega))
            obtain ⟨x, hx⟩ : ∃ x, byteU s (p + 1) = x := ⟨_, rfl⟩
            rw [hx] at hN2 hR2 n120
            clear hrel q1 q2 q3 e0 e1 hx
            go_wp2_with (fail)
            go_at_call 80
            refine (hN _ hst).mono ?_
            rintro e w1 ⟨rfl, hst1⟩
            have a0 := hst1.1.s
            have a1 := hst1.1.n
            dsimp only
            go_wp2
            go_quiet (fail)
            have hst2 := hst1.drewN nq
            go_wp2_with (fail)
            go_at_call 80
            refine (hN _ hst2).mono ?_
            rintro e w2 ⟨rfl, hst3⟩
            have b1 := hst3.1.n
            have b2 := hst3.1.free
            dsimp only
            have hst4 := hst3.set hRlt (p + 1) ((p : Int) + 1) (by omega)
            go_wp2_with (fail)
            go_at_call 80
            refine (hN2 _ hst4).mono ?_
            rintro e w3 ⟨rfl, hst5⟩
            dsimp only
            go_wp2_with (fail)
            go_at_call 80
            refine (hN2 _ hst5).mono ?_
            rintro e w4 ⟨rfl, hst6⟩
            dsimp only
            go_wp2_with (fail)
            go_at_call 98
            refine (wbyte_any w.heap.size acc x _ hst6.2.1 (by omega) hst6.blt).mono ?_
            rintro e w7 ⟨rfl, hb7, hlo7⟩
            have hst8 := hst6.wrote hRlt hb7 hlo7
            dsimp only
            have k1 := hst8.at1 (z := (p : Int) + 1) (by omega)
            have k2 := hst8.1.free
            have hst9 := hst8.set hRlt (p + 2) ((p : Int) + 2) (by omega)
            go_wp2
            go_roundw
            case rel => exact ⟨p + 2, _, hR2.out, hst9⟩
            case measure => rw [ptrAt_of hst9.1, hmeas]; omega
        · have hR2 := Lib.hid (hrel.plain hlt q1 q2)
          have n34 : ¬ ((byteU s p).toNat : Int) = 34 := fun e => q1 (UInt8.toNat_inj.1 (by have : (34 : UInt8).toNat = 34 := rfl; omega))
          have n92 : ¬ ((byteU s p).toNat : Int) = 92 := fun e => q2 (UInt8.toNat_inj.1 (by have : (92 : UInt8).toNat = 92 := rfl; omega))
          have hN := fun W hW => next_st (w := w) (R := R) (acc := acc) e0 (by omega) W hW
          obtain ⟨x, hx⟩ : ∃ x, byteU s p = x := ⟨_, rfl⟩
          rw [hx] at hN hR2 n34 n92
          clear hrel q1 q2 e0 hx
          go_wp2_with (fail)
          go_at_call 80
          refine (hN _ hst).mono ?_
          rintro e w1 ⟨rfl, hst1⟩
          have a0 := hst1.1.s
          have a1 := hst1.1.n
          dsimp only
          go_wp2
          go_quiet (fail)
          have hst2 := hst1.drewN nq
          go_wp2_with (fail)
          go_at_call 80
          refine (hN _ hst2).mono ?_
          rintro e w2 ⟨rfl, hst3⟩
          have b1 := hst3.1.n
          have b2 := hst3.1.free
          dsimp only
          go_wp2_with (fail)
          go_at_call 80
          refine (hN _ hst3).mono ?_
          rintro e w3 ⟨rfl, hst4⟩
          dsimp only
          go_wp2_with (fail)
          go_at_call 98
          refine (wbyte_any w.heap.size acc x _ hst4.2.1 (by omega) hst4.blt).mono ?_
          rintro e w7 ⟨rfl, hb7, hlo7⟩
          have hst8 := hst4.wrote hRlt hb7 hlo7
          dsimp only
          have k1 := hst8.1.n
          have k2 := hst8.1.free
          have hst9 := hst8.set hRlt (p + 1) ((p : Int) + 1) (by omega)
          go_wp2
          go_roundw
          case rel => exact ⟨p + 1, _, hR2.out, hst9⟩
          case measure => rw [ptrAt_of hst9.1, hmeas]; omega
    · have e0 : byteN s p = 0 := by unfold byteN; rw [dif_neg hlt]
      have hF := Lib.hid (hrel.stop hlt)
      have hN := fun W hW => next_st (w := w) (R := R) (acc := acc) e0 (by omega) W hW
      have c4 : (s.size : Int) ≤ (p : Int) := by omega
      clear hrel e0 hmeas
      go_wp2_with (fail)
      go_at_call 80
      refine (hN _ hst).mono ?_
      rintro e w1 ⟨rfl, hst1⟩
      have k0 := hst1.1.s
      have k1 := hst1.1.n
      dsimp only
      go_wp2
      go_quiet (fail)
      go_wp2
      exact ⟨rfl, (hst1.drewN _).2.2, .inr ⟨hF.out, rfl⟩⟩
end
section
open Go.RowKit
set_option linter.unusedVariables false
set_option linter.unusedSimpArgs false
set_option linter.unusedSectionVars false
set_option maxRecDepth 100000
attribute [local go_sem] Oper.semAt_some

theorem atoi_good (s : ByteArray) (hs : s.size ≤ 281474976710656) (v : Int) (h : Lib.atoiAll s.data.toList = .ok v) (w : World) :
    Calls Tryd.prog 86 #[.string s] w fun e w' => e = .returned (.tuple #[.int .i64 v, .nilIface]) ∧ Ext w w' := by
  refine (Tryd.strconv_Atoi_ok s (by omega) v h w).mono ?_
  rintro e w' ⟨rfl, h2⟩
  refine ⟨rfl, ?_⟩
  rcases h2 with rfl | ⟨t, rfl⟩
  · exact Ext.refl _
  · exact Lib.bytesWorld_below _ _ _
theorem atoi_bad (s : ByteArray) (hs : s.size ≤ 281474976710656) (h : ∀ v, Lib.atoiAll s.data.toList ≠ .ok v) (w : World) (hL : LibT w) :
    Calls Tryd.prog 86 #[.string s] w fun e w' => ∃ x N, e = .returned (.tuple #[.int .i64 x, .iface 135 (.pointer (some ⟨N, 0, none⟩))]) ∧ Ext w w' := by
  rcases hc : Lib.atoiAll s.data.toList with v | _ | _
  · exact absurd hc (h v)
  · skip
    obtain ⟨tp, p, hv⟩ := hL.syn
    refine (Any.strconv_Atoi_syntax_var Tryd.laysC172 s hs hc tp p w hv).mono ?_
    rintro e w' ⟨N, rfl, _, _, hb⟩
    exact ⟨_, N, rfl, hb⟩
  · skip
    obtain ⟨tp, p, hv⟩ := hL.rng
    refine (Tryd.strconv_Atoi_range_var s hs hc tp p w hv).mono ?_
    rintro e w' ⟨N, rfl, _, _, hb⟩
    exact ⟨_, N, rfl, hb⟩
theorem itoa_T (n : Int) (h0 : -9223372036854775808 ≤ n) (h1 : n ≤ 9223372036854775807) (w : World) (hL : Tab w) :
    Calls Tryd.prog 82 #[.int .i64 n] w fun e w' => e = .returned (.string ⟨(Lib.itoa n).toArray⟩) ∧ Ext w w' := by
  refine (Tryd.strconv_Itoa n h0 h1 w hL).mono ?_
  rintro e w' ⟨rfl, k, os, rfl⟩
  exact ⟨rfl, grow_ext w k os⟩
theorem BoxN.setRow {W : World} {B : Nat} {t : TypeId} {C : Array Value} (h : BoxN W B t C) (C' : Array Value) : BoxN (W.setRow B C') B t C' := by
  unfold BoxN at *
  rw [setRow_heap W B C C' t _ h]
theorem BoxN.upd {W W' : World} {B R : Nat} {t : TypeId} {C : Array Value} (h : BoxN W B t C) (hx : Upd W R W') (hne : B ≠ R) : BoxN W' B t C := hx.heap h hne
theorem value_info : (Tryd.prog.info? 29).map (·.size) = some 3 := by kernel_rfl
/-- what 'value' leaves -/
def ValPost (R : Nat) (s : ByteArray) (n : Nat) (w : World) (e : Ending) (w' : World) : Prop :=
  Upd w R w' ∧ ((∃ v n', readVl (s.data.toList.drop n) = some (v, s.data.toList.drop n') ∧ n' ≤ s.size ∧ e = .returned (ofP v).v ∧ Rdr w' R s (n' : Nat)) ∨
    (readVl (s.data.toList.drop n) = none ∧ e = .panicked [{ v := stopV, recovered := false }]))
theorem bytes_get (s : ByteArray) (i : Nat) (h : i < s.size) : s.data.toList[i]? = some (byteU s i) := by
  have h' : i < s.data.toList.length := by simpa using h
  unfold byteU
  rw [List.getD_eq_getElem?_getD, List.getElem?_eq_getElem h']
  rfl
/-- a word up to the next comma -/
theorem word_at (s : ByteArray) (n p : Nat) (h1 : n ≤ p) (h2 : p ≤ s.size) (hall : ∀ i, n ≤ i → i < p → byteU s i ≠ 44) (hstop : p = s.size ∨ byteU s p = 44) :
    (s.data.toList.drop n).takeWhile (fun c => c != 44) = (s.data.toList.drop n).take (p - n) ∧ (s.data.toList.drop n).dropWhile (fun c => c != 44) = s.data.toList.drop p := by
  have hsplit : s.data.toList.drop n = (s.data.toList.drop n).take (p - n) ++ s.data.toList.drop p := by
    have := (List.take_append_drop (p - n) (s.data.toList.drop n)).symm
    rw [List.drop_drop, show n + (p - n) = p by omega] at this
    exact this
  have ht := takeW (fun c => c != 44) ((s.data.toList.drop n).take (p - n)) (s.data.toList.drop p) (fun c hc => by
    obtain ⟨i, hi⟩ := List.mem_iff_getElem?.1 hc
    rw [List.getElem?_take] at hi
    split at hi
    · rename_i hlt
      rw [List.getElem?_drop, bytes_get s (n + i) (by omega)] at hi
      injection hi with hi
      have := hall (n + i) (by omega) (by omega)
      rw [hi] at this
      simpa using this
    · cases hi) (by
    rcases hstop with h | h
    · exact .inl (by rw [h]; exact drop_out s s.size (by omega))
    · by_cases hp : p < s.size
      · exact .inr ⟨byteU s p, _, byteU_drop s p hp, by rw [h]; decide⟩
      · exact .inl (drop_out s p hp))
  rw [← hsplit] at ht
  exact ht
theorem str_part (s : ByteArray) (n p : Nat) (h1 : n ≤ p) (h2 : p ≤ s.size) (w : World) : (Instr.slice 9 (.string s) (some (.int .i64 (n : Int))) (some (.int .i64 (p : Int))) none).run Tryd.prog w = .ok (.string ⟨((s.data.toList.drop n).take (p - n)).toArray⟩) w := by
  rw [run_slice_string (P := Tryd.prog) w 9 s .i64 .i64 (n : Int) (p : Int) Tryd.underlying9 (by omega) (by omega) (by omega)]
  congr 2
  apply ByteArray.ext
  apply Array.ext'
  simp only [ByteArray.data_extract, Array.toList_extract, List.extract_eq_take_drop]
  rw [show (p : Int).toNat - (n : Int).toNat = p - n by omega, show (n : Int).toNat = n from rfl]
/-- what holds in 'value' -/
def VlSt (w : World) (R : Nat) (s : ByteArray) (p : Nat) (wr : World) : Prop := Rdr wr R s p ∧ BoxN wr w.heap.size 29 #[.int .i64 0, .int .i64 0, .string ⟨#[]⟩] ∧ Upd w R wr
theorem VlSt.set {w wr : World} {R p : Nat} {s : ByteArray} (h : VlSt w R s p wr) (hR : R < w.heap.size) (q : Nat) (z : Int) (hz : z = (q : Int)) : VlSt w R s q (wr.setCell ⟨R, 1, none⟩ (.int .i64 z)) := by
  subst hz
  exact ⟨h.1.set _, h.2.1.upd (Upd.setCell _ _ _ _) (by omega), h.2.2.trans (Upd.setCell _ _ _ _)⟩
theorem VlSt.ext {w wr w' : World} {R p : Nat} {s : ByteArray} (h : VlSt w R s p wr) (hx : Ext wr w') : VlSt w R s p w' :=
  ⟨h.1.ext hx, h.2.1.ext hx, h.2.2.trans (Upd.of_ext hx R)⟩
theorem VlSt.drewN {w wr : World} {R p : Nat} {s : ByteArray} (h : VlSt w R s p wr) (m : Nat) : VlSt w R s p (wr.drewN m) := h.ext ((Ext.refl wr).drewN m)
theorem VlSt.drew {w wr : World} {R p : Nat} {s : ByteArray} (h : VlSt w R s p wr) : VlSt w R s p wr.drew := h.ext (Ext.refl wr).drew
theorem VlSt.at1 {w wr : World} {R p : Nat} {s : ByteArray} (h : VlSt w R s p wr) {z : Int} (hz : (p : Int) = z) : wr.cell? ⟨R, 1, none⟩ = some (.int .i64 z) := hz ▸ h.1.n
theorem next_vl {w : World} {R p : Nat} {s : ByteArray} {c : Int} (hc : byteN s p = c) (hn : p ≤ 140737488355328) (wr : World) (h : VlSt w R s p wr) :
    Calls Tryd.prog 80 #[.pointer (some ⟨R, 0, none⟩)] wr fun e w' => e = .returned (.int .u8 c) ∧ VlSt w R s p w' :=
  (next_at R s p c hc hn wr h.1).mono fun e w' ⟨he, m, hw⟩ => ⟨he, hw ▸ h.drewN m⟩
/-- the result's cells, written at the end -/
theorem VlSt.fin {w wr : World} {R p : Nat} {s : ByteArray} (h : VlSt w R s p wr) (hR : R < w.heap.size) (a b c : Value) :
    Rdr (((wr.setCell ⟨w.heap.size, 0, none⟩ a).setCell ⟨w.heap.size, 1, none⟩ b).setCell ⟨w.heap.size, 2, none⟩ c) R s p ∧ BoxN (((wr.setCell ⟨w.heap.size, 0, none⟩ a).setCell ⟨w.heap.size, 1, none⟩ b).setCell ⟨w.heap.size, 2, none⟩ c) w.heap.size 29 #[a, b, c] ∧ Upd w R (((wr.setCell ⟨w.heap.size, 0, none⟩ a).setCell ⟨w.heap.size, 1, none⟩ b).setCell ⟨w.heap.size, 2, none⟩ c) := by
  have hu : Upd wr w.heap.size (((wr.setCell ⟨w.heap.size, 0, none⟩ a).setCell ⟨w.heap.size, 1, none⟩ b).setCell ⟨w.heap.size, 2, none⟩ c) := ((Upd.setCell _ _ _ _).trans (Upd.setCell _ _ _ _)).trans (Upd.setCell _ _ _ _)
  exact ⟨BoxN.upd h.1 hu (by omega), ((h.2.1.set 0 a).set 1 b).set 2 c, h.2.2.then_low (hu.low (Nat.le_refl _) h.2.2.size)⟩
theorem VlSt.cells {w wr : World} {R p : Nat} {s : ByteArray} (h : VlSt w R s p wr) : (wr.cell? ⟨w.heap.size, 0, none⟩ = some (.int .i64 0) ∧ wr.cell? ⟨w.heap.size, 1, none⟩ = some (.int .i64 0) ∧ wr.cell? ⟨w.heap.size, 2, none⟩ = some (.string ⟨#[]⟩)) ∧ wr.frozen? ⟨w.heap.size, 0, none⟩ = false ∧ wr.frozen? ⟨w.heap.size, 1, none⟩ = false ∧ wr.frozen? ⟨w.heap.size, 2, none⟩ = false :=
  ⟨⟨h.2.1.cell rfl, h.2.1.cell rfl, h.2.1.cell rfl⟩, h.2.1.frozen 0, h.2.1.frozen 1, h.2.1.frozen 2⟩
set_option maxHeartbeats 8000000 in
theorem value_rd (R : Nat) (s : ByteArray) (n : Nat) (w : World) (h : Rdr w R s n) (hn : n ≤ s.size) (hs : s.size ≤ 1000000) (hL : LibB R w) :
    Calls Tryd.prog 79 #[.pointer (some ⟨R, 0, none⟩)] w (ValPost R s n w) := by
  have hRlt := h.lt
  have hst0 : VlSt w R s n (w.alloc (.cells #[.int .i64 0, .int .i64 0, .string ⟨#[]⟩] 29)) := ⟨h.ext ((Ext.refl w).alloc _), BoxN.new _ _ _, Upd.of_ext ((Ext.refl w).alloc _) R⟩
  have e0 := byteU_Nall s n
  have key : ∀ (W : World) (p : Nat), VlSt w R s p W → LibB R W := fun W p hv => hL.kept (hv.2.2.low (Nat.le_refl R) (by omega))
  by_cases q1 : n < s.size ∧ byteU s n = 34
  · obtain ⟨hlt, q1⟩ := q1
    rw [q1] at e0
    have hread : readVl (s.data.toList.drop n) = (readTx (s.size + 1) (s.data.toList.drop (n + 1))).map fun z => ((2, 0, z.1), z.2) := by
      unfold readVl
      rw [byteU_drop s n hlt, q1]
      rw [if_pos (by rfl), List.tail_cons]
      rw [readTx_more (s.size + 1) (by simp) (by simp; omega)]
    have hN := fun W hW => next_vl (w := w) (R := R) e0 (by omega) W hW
    clear e0
    go_enter Tryd.func79, Tryd.ntmps79
    go_wp2_with (fail)
    go_at_call 80
    refine (hN _ hst0).mono ?_
    rintro e w1 ⟨rfl, hst1⟩
    dsimp only
    go_wp2_with (fail)
    go_at_call 104
    refine (text_rd R s n _ hst1.1 hlt hs (key _ _ hst1)).mono ?_
    rintro e w2 ⟨hu, ⟨d, n', h1, h2, rfl, h3⟩ | ⟨h1, rfl⟩⟩
    · have hst2 : VlSt w R s n' w2 := ⟨h3, hst1.2.1.upd hu (by omega), hst1.2.2.trans hu⟩
      have hF := hst2.fin hRlt (.int .i64 2) (.int .i64 0) (.string ⟨d.toArray⟩)
      obtain ⟨⟨r0, r1, r2⟩, f0, f1, f2⟩ := hst2.cells
      dsimp only
      go_wp2
      refine bodyPost_ret (results_cell_row rfl _ _ w.heap.size 29 _ (0, 0) _ rfl hF.2.1 Tryd.underlying29 rfl value_info) rfl ?_
      exact ⟨hF.2.2, .inl ⟨(2, 0, d), n', by rw [hread, h1]; rfl, h2, rfl, hF.1⟩⟩
    · exact ⟨rfl, hst1.2.2.trans hu, .inr ⟨by rw [hread, h1]; rfl, rfl⟩⟩
  · have hread : readVl (s.data.toList.drop n) = (numP ((s.data.toList.drop n).takeWhile fun c => c != 44)).map fun k => ((1, k, []), (s.data.toList.drop n).dropWhile fun c => c != 44) := by
      unfold readVl
      rw [if_neg]
      by_cases hlt : n < s.size
      · rw [byteU_drop s n hlt]
        simp only [List.head?_cons, Option.some.injEq]
        exact fun e => q1 ⟨hlt, e⟩
      · rw [drop_out s n hlt]
        simp
    have n34 : ¬ byteN s n = 34 := by
      intro e
      rw [e0] at e
      have h34 : (34 : UInt8).toNat = 34 := rfl
      have hu : byteU s n = 34 := UInt8.toNat_inj.1 (by omega)
      refine q1 ⟨?_, hu⟩
      apply Classical.byContradiction
      intro hc
      rw [byteU_out s n hc] at hu
      exact absurd hu (by decide)
    have hN := fun W hW => next_vl (w := w) (R := R) (p := n) (s := s) rfl (by omega) W hW
    generalize byteN s n = c0 at *
    clear e0 q1
    go_enter Tryd.func79, Tryd.ntmps79
    go_wp2_with (fail)
    go_at_call 80
    refine (hN _ hst0).mono ?_
    rintro e w1 ⟨rfl, hst1⟩
    have k0 := hst1.1.s
    have k1 := hst1.1.n
    dsimp only
    go_wp2
    clear k0 k1 hN n34
    go_loopw [16] (fun _ wr => ∃ p : Nat, n ≤ p ∧ p ≤ s.size ∧ (∀ i, n ≤ i → i < p → byteU s i ≠ 44) ∧ VlSt w R s p wr) (fun _ wr => s.size - ptrAt wr R)
    case atStart => exact ⟨n, Nat.le_refl _, hn, by intro i h1 h2; omega, hst1⟩
    case round =>
      obtain ⟨p, hnp, hps, hall, hst⟩ := hrel
      have hmeas : ptrAt wr R = p := ptrAt_of hst.1
      have a0 := hst.1.s
      have a1 := hst.1.n
      by_cases hlt : p < s.size
      · have c1 : (p : Int) < s.size := by omega
        have hi := fun W => str_index s p hlt W
        rw [byteU_Nall] at hi
        by_cases h44 : byteU s p = 44
        · have hstop : p = s.size ∨ byteU s p = 44 := .inr h44
          rw [h44] at hi
          rw [show (((44 : UInt8).toNat : Nat) : Int) = 44 from rfl] at hi
          clear h44 hmeas
          go_wp2
          go_quiet (fail)
          go_wp2
          clear c1 hi
          have hw := word_at s n p hnp hps hall hstop
          have hsl := fun W => str_part s n p hnp hps W
          have hlen : ((s.data.toList.drop n).take (p - n)).length ≤ 1000000 := by simp; omega
          rw [hw.1, hw.2] at hread
          generalize (s.data.toList.drop n).take (p - n) = wd at *
          have hsz : (⟨wd.toArray⟩ : ByteArray).size ≤ 1000000 := by
            show wd.toArray.size ≤ 1000000
            simpa using hlen
          have hHR := Lib.hid hread
          have hHW := Lib.hid hw
          obtain ⟨Y, hY⟩ : ∃ Y : ByteArray, ⟨wd.toArray⟩ = Y := ⟨_, rfl⟩
          have hYd : Y.data.toList = wd := by rw [← hY]
          rw [hY] at hsl hsz
          clear hread hw hstop hall
          obtain ⟨W3, hW3⟩ : ∃ W3, W3 = wr.drewN nq := ⟨_, rfl⟩
          have hst2 := hst.drewN nq
          rw [← hW3] at hst2
          simp only [← hW3]
          clear hW3 a0 a1 hst
          have a0 := hst2.1.s
          have a1 := hst2.1.n
          rcases hA : Lib.atoiAll Y.data.toList with v | _ | _
          · skip
            have hAd := atoi_good Y (by omega) v hA W3.drew
            have hvb := Lib.atoiAll_bounds hA
            go_region_held3 (fun w' => w'.cell? ⟨R, 0, none⟩ = some (.string s) ∧ w'.cell? ⟨R, 1, none⟩ = some (.int .i64 (p : Int))) (go_keep)
              (first
                | (go_at_call 86; refine hAd.mono ?_; rintro e w5 ⟨rfl, hx5⟩; have y0 := hx5.cell a0; have y1 := hx5.cell a1)
                | fail)
            have hst3 := hst2.drew.ext hx5
            have b0 := hst3.1.s
            have b1 := hst3.1.n
            have hI := itoa_T v hvb.1 hvb.2 w5.drew (key _ _ hst3.drew).1.tab
            obtain ⟨X, hX⟩ : ∃ X : ByteArray, ⟨(Lib.itoa v).toArray⟩ = X := ⟨_, rfl⟩
            rw [hX] at hI
            clear y0 y1 a0 a1
            by_cases he : Lib.itoa v = wd
            · have hcmp : (X.toList == Y.toList) = true := by rw [← hX, ← hY, he]; simp
              have hN0 : numP wd = some v := by
                unfold numP atoiV
                rw [← hYd, hA]
                simp only
                rw [hYd, if_pos he]
              have hHN := Lib.hid hN0
              clear hA he hX hY hYd hN0
              go_wp2
              go_region_held3 (fun w' => w'.cell? ⟨R, 0, none⟩ = some (.string s) ∧ w'.cell? ⟨R, 1, none⟩ = some (.int .i64 (p : Int))) (go_keep)
                (first
                  | (go_at_call 82; refine hI.mono ?_; rintro e w6 ⟨rfl, hx6⟩; have y0 := hx6.cell b0; have y1 := hx6.cell b1)
                  | fail)
              have hst4 := hst3.drew.ext hx6
              have hF := hst4.fin hRlt (.int .i64 1) (.int .i64 v) (.string ⟨#[]⟩)
              obtain ⟨⟨r0, r1, r2⟩, f0, f1, f2⟩ := hst4.cells
              go_wp2
              refine bodyPost_ret (results_cell_row rfl _ _ w.heap.size 29 _ (0, 0) _ rfl hF.2.1 Tryd.underlying29 rfl value_info) rfl ?_
              exact ⟨hF.2.2, .inl ⟨(1, v, []), p, by rw [hHR.out, hHN.out]; rfl, hps, rfl, hF.1⟩⟩
            · have hcmp : (X.toList == Y.toList) = false := by
                rw [beq_eq_false_iff_ne]
                intro e
                rw [Lib.toList_data, Lib.toList_data, ← hX, hYd] at e
                exact he (by simpa using e)
              have hN0 : numP wd = none := by
                unfold numP atoiV
                rw [← hYd, hA]
                simp only
                rw [hYd, if_neg he]
              have hHN := Lib.hid hN0
              clear hA he hX hY hYd hN0
              go_wp2
              go_region_held3 (fun w' => w'.cell? ⟨R, 0, none⟩ = some (.string s) ∧ w'.cell? ⟨R, 1, none⟩ = some (.int .i64 (p : Int))) (go_keep)
                (first
                  | (go_at_call 82; refine hI.mono ?_; rintro e w6 ⟨rfl, hx6⟩; have y0 := hx6.cell b0; have y1 := hx6.cell b1)
                  | fail)
              have hst4 := hst3.drew.ext hx6
              go_wp2
              exact ⟨rfl, hst4.2.2, .inr ⟨by rw [hHR.out, hHN.out]; rfl, rfl⟩⟩
          · skip -- no number
            have hAd := atoi_bad Y (by omega) (fun v e => by rw [hA] at e; cases e) W3.drew (key _ _ hst2.drew).1
            have hN0 : numP wd = none := by
              unfold numP
              rw [← hYd, hA]
            have hHN := Lib.hid hN0
            clear hA hY hYd hN0
            go_region_held3 (fun w' => w'.cell? ⟨R, 0, none⟩ = some (.string s) ∧ w'.cell? ⟨R, 1, none⟩ = some (.int .i64 (p : Int))) (go_keep)
              (first
                | (go_at_call 86; refine hAd.mono ?_; rintro e w5 ⟨x5, N5, rfl, hx5⟩; have y0 := hx5.cell a0; have y1 := hx5.cell a1)
                | fail)
            have hst3 := hst2.drew.ext hx5
            go_wp2
            go_quiet (fail)
            go_wp2
            exact ⟨rfl, (hst3.drewN _).2.2, .inr ⟨by rw [hHR.out, hHN.out]; rfl, rfl⟩⟩
          · skip -- range
            have hAd := atoi_bad Y (by omega) (fun v e => by rw [hA] at e; cases e) W3.drew (key _ _ hst2.drew).1
            have hN0 : numP wd = none := by
              unfold numP
              rw [← hYd, hA]
            have hHN := Lib.hid hN0
            clear hA hY hYd hN0
            go_region_held3 (fun w' => w'.cell? ⟨R, 0, none⟩ = some (.string s) ∧ w'.cell? ⟨R, 1, none⟩ = some (.int .i64 (p : Int))) (go_keep)
              (first
                | (go_at_call 86; refine hAd.mono ?_; rintro e w5 ⟨x5, N5, rfl, hx5⟩; have y0 := hx5.cell a0; have y1 := hx5.cell a1)
                | fail)
            have hst3 := hst2.drew.ext hx5
            go_wp2
            go_quiet (fail)
            go_wp2
            exact ⟨rfl, (hst3.drewN _).2.2, .inr ⟨by rw [hHR.out, hHN.out]; rfl, rfl⟩⟩
        · have n44 : (((byteU s p).toNat : Int) != 44) = true := by
            rw [bne_iff_ne]
            intro e
            have h44' : (44 : UInt8).toNat = 44 := rfl
            exact h44 (UInt8.toNat_inj.1 (by omega))
          have hall2 := Lib.hid (show ∀ i, n ≤ i → i < p + 1 → byteU s i ≠ 44 from fun i h1 h2 => by
            by_cases hip : i = p
            · subst hip; exact h44
            · exact hall i h1 (by omega))
          generalize byteU s p = u at *
          clear hall h44 hread
          have d0 : IntKind.i64.wrap ((p : Int) + 1) = (p : Int) + 1 := IntWalk.i64_in _ ⟨by omega, by omega⟩
          go_wp2
          go_quiet (fail)
          have hst2 := hst.drewN nq
          have b1 := hst2.1.n
          have b2 := hst2.1.free
          have hst9 := hst2.set hRlt (p + 1) ((p : Int) + 1) (by omega)
          go_wp2
          go_roundw
          case rel => exact ⟨p + 1, by omega, by omega, hall2.out, hst9⟩
          case measure => rw [ptrAt_of hst9.1, hmeas]; omega
      · have hstop : p = s.size ∨ byteU s p = 44 := .inl (by omega)
        have c1 : decide ((p : Int) < s.size) = false := decide_eq_false (by omega)
        clear hmeas
        go_wp2
        go_quiet (fail)
        go_wp2
        clear c1
        have hw := word_at s n p hnp hps hall hstop
        have hsl := fun W => str_part s n p hnp hps W
        have hlen : ((s.data.toList.drop n).take (p - n)).length ≤ 1000000 := by simp; omega
        rw [hw.1, hw.2] at hread
        generalize (s.data.toList.drop n).take (p - n) = wd at *
        have hsz : (⟨wd.toArray⟩ : ByteArray).size ≤ 1000000 := by
          show wd.toArray.size ≤ 1000000
          simpa using hlen
        have hHR := Lib.hid hread
        have hHW := Lib.hid hw
        obtain ⟨Y, hY⟩ : ∃ Y : ByteArray, ⟨wd.toArray⟩ = Y := ⟨_, rfl⟩
        have hYd : Y.data.toList = wd := by rw [← hY]
        rw [hY] at hsl hsz
        clear hread hw hstop hall
        obtain ⟨W3, hW3⟩ : ∃ W3, W3 = wr.drewN nq := ⟨_, rfl⟩
        have hst2 := hst.drewN nq
        rw [← hW3] at hst2
        simp only [← hW3]
        clear hW3 a0 a1 hst
        have a0 := hst2.1.s
        have a1 := hst2.1.n
        rcases hA : Lib.atoiAll Y.data.toList with v | _ | _
        · skip
          have hAd := atoi_good Y (by omega) v hA W3.drew
          have hvb := Lib.atoiAll_bounds hA
          go_region_held3 (fun w' => w'.cell? ⟨R, 0, none⟩ = some (.string s) ∧ w'.cell? ⟨R, 1, none⟩ = some (.int .i64 (p : Int))) (go_keep)
            (first
              | (go_at_call 86; refine hAd.mono ?_; rintro e w5 ⟨rfl, hx5⟩; have y0 := hx5.cell a0; have y1 := hx5.cell a1)
              | fail)
          have hst3 := hst2.drew.ext hx5
          have b0 := hst3.1.s
          have b1 := hst3.1.n
          have hI := itoa_T v hvb.1 hvb.2 w5.drew (key _ _ hst3.drew).1.tab
          obtain ⟨X, hX⟩ : ∃ X : ByteArray, ⟨(Lib.itoa v).toArray⟩ = X := ⟨_, rfl⟩
          rw [hX] at hI
          clear y0 y1 a0 a1
          by_cases he : Lib.itoa v = wd
          · have hcmp : (X.toList == Y.toList) = true := by rw [← hX, ← hY, he]; simp
            have hN0 : numP wd = some v := by
              unfold numP atoiV
              rw [← hYd, hA]
              simp only
              rw [hYd, if_pos he]
            have hHN := Lib.hid hN0
            clear hA he hX hY hYd hN0
            go_wp2
            go_region_held3 (fun w' => w'.cell? ⟨R, 0, none⟩ = some (.string s) ∧ w'.cell? ⟨R, 1, none⟩ = some (.int .i64 (p : Int))) (go_keep)
              (first
                | (go_at_call 82; refine hI.mono ?_; rintro e w6 ⟨rfl, hx6⟩; have y0 := hx6.cell b0; have y1 := hx6.cell b1)
                | fail)
            have hst4 := hst3.drew.ext hx6
            have hF := hst4.fin hRlt (.int .i64 1) (.int .i64 v) (.string ⟨#[]⟩)
            obtain ⟨⟨r0, r1, r2⟩, f0, f1, f2⟩ := hst4.cells
            go_wp2
            refine bodyPost_ret (results_cell_row rfl _ _ w.heap.size 29 _ (0, 0) _ rfl hF.2.1 Tryd.underlying29 rfl value_info) rfl ?_
            exact ⟨hF.2.2, .inl ⟨(1, v, []), p, by rw [hHR.out, hHN.out]; rfl, hps, rfl, hF.1⟩⟩
          · have hcmp : (X.toList == Y.toList) = false := by
              rw [beq_eq_false_iff_ne]
              intro e
              rw [Lib.toList_data, Lib.toList_data, ← hX, hYd] at e
              exact he (by simpa using e)
            have hN0 : numP wd = none := by
              unfold numP atoiV
              rw [← hYd, hA]
              simp only
              rw [hYd, if_neg he]
            have hHN := Lib.hid hN0
            clear hA he hX hY hYd hN0
            go_wp2
            go_region_held3 (fun w' => w'.cell? ⟨R, 0, none⟩ = some (.string s) ∧ w'.cell? ⟨R, 1, none⟩ = some (.int .i64 (p : Int))) (go_keep)
              (first
                | (go_at_call 82; refine hI.mono ?_; rintro e w6 ⟨rfl, hx6⟩; have y0 := hx6.cell b0; have y1 := hx6.cell b1)
                | fail)
            have hst4 := hst3.drew.ext hx6
            go_wp2
            exact ⟨rfl, hst4.2.2, .inr ⟨by rw [hHR.out, hHN.out]; rfl, rfl⟩⟩
        · skip -- no number
          have hAd := atoi_bad Y (by omega) (fun v e => by rw [hA] at e; cases e) W3.drew (key _ _ hst2.drew).1
          have hN0 : numP wd = none := by
            unfold numP
            rw [← hYd, hA]
          have hHN := Lib.hid hN0
          clear hA hY hYd hN0
          go_region_held3 (fun w' => w'.cell? ⟨R, 0, none⟩ = some (.string s) ∧ w'.cell? ⟨R, 1, none⟩ = some (.int .i64 (p : Int))) (go_keep)
            (first
              | (go_at_call 86; refine hAd.mono ?_; rintro e w5 ⟨x5, N5, rfl, hx5⟩; have y0 := hx5.cell a0; have y1 := hx5.cell a1)
              | fail)
          have hst3 := hst2.drew.ext hx5
          go_wp2
          go_quiet (fail)
          go_wp2
          exact ⟨rfl, (hst3.drewN _).2.2, .inr ⟨by rw [hHR.out, hHN.out]; rfl, rfl⟩⟩
        · skip -- range
          have hAd := atoi_bad Y (by omega) (fun v e => by rw [hA] at e; cases e) W3.drew (key _ _ hst2.drew).1
          have hN0 : numP wd = none := by
            unfold numP
            rw [← hYd, hA]
          have hHN := Lib.hid hN0
          clear hA hY hYd hN0
          go_region_held3 (fun w' => w'.cell? ⟨R, 0, none⟩ = some (.string s) ∧ w'.cell? ⟨R, 1, none⟩ = some (.int .i64 (p : Int))) (go_keep)
            (first
              | (go_at_call 86; refine hAd.mono ?_; rintro e w5 ⟨x5, N5, rfl, hx5⟩; have y0 := hx5.cell a0; have y1 := hx5.cell a1)
              | fail)
          have hst3 := hst2.drew.ext hx5
          go_wp2
          go_quiet (fail)
          go_wp2
          exact ⟨rfl, (hst3.drewN _).2.2, .inr ⟨by rw [hHR.out, hHN.out]; rfl, rfl⟩⟩
end
end Go.Proofs.YtepgpejdnlejnaaDoor

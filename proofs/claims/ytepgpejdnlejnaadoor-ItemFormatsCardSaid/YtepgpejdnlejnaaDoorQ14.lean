/- ItXJ (merged by group.py) -/
import Derived.Test.YtepgpejdnlejnaaDoorQ13
namespace Go.Proofs.YtepgpejdnlejnaaDoor
section
open Go.RowKit
set_option linter.unusedVariables false
set_option linter.unusedSimpArgs false
set_option linter.unusedSectionVars false
set_option maxRecDepth 100000
attribute [local go_sem] Oper.semAt_some

def nibN (c : UInt8) : Int := match nibD c with
  | some k => k
  | none => -1
theorem nib_cases (c : UInt8) : (48 ≤ c.toNat ∧ c.toNat ≤ 57 ∧ nibN c = (c.toNat : Int) - 48) ∨ (¬ (48 ≤ c.toNat ∧ c.toNat ≤ 57) ∧ 97 ≤ c.toNat ∧ c.toNat ≤ 102 ∧ nibN c = (c.toNat : Int) - 97 + 10) ∨ (¬ (48 ≤ c.toNat ∧ c.toNat ≤ 57) ∧ ¬ (97 ≤ c.toNat ∧ c.toNat ≤ 102) ∧ nibN c = -1) := by
  unfold nibN nibD
  by_cases h1 : 48 ≤ c.toNat ∧ c.toNat ≤ 57
  · rw [if_pos h1]
    exact .inl ⟨h1.1, h1.2, by simp only; omega⟩
  · rw [if_neg h1]
    by_cases h2 : 97 ≤ c.toNat ∧ c.toNat ≤ 102
    · rw [if_pos h2]
      exact .inr (.inl ⟨h1, h2.1, h2.2, by simp only; omega⟩)
    · rw [if_neg h2]
      exact .inr (.inr ⟨h1, h2, rfl⟩)
theorem nibN_in (c : UInt8) : (nibD c = none ∧ nibN c = -1) ∨ ∃ k, nibD c = some k ∧ nibN c = (k : Int) ∧ k < 16 := by
  cases h : nibD c with
  | none => exact .inl ⟨rfl, by unfold nibN; rw [h]⟩
  | some k => exact .inr ⟨k, rfl, by unfold nibN; rw [h], (nib_hex c k h).1⟩
theorem nibble_any (c : UInt8) (w : World) : Calls Tryd.prog 116 #[.int .u8 (c.toNat : Int)] w fun e w' => e = .returned (.int .i64 (nibN c)) ∧ w = w' := by
  have h256 := c.toNat_lt
  rcases nib_cases c with ⟨h1, h2, h3⟩ | ⟨h0, h1, h2, h3⟩ | ⟨h0, h1, h3⟩
  · have HN := Lib.hid h3
    have c1 : (48 : Int) ≤ (c.toNat : Int) := by omega
    have c2 : (c.toNat : Int) ≤ 57 := by omega
    have d1 : IntKind.u8.wrap ((c.toNat : Int) - 48) = (c.toNat : Int) - 48 := by simp [IntKind.wrap, IntKind.bits, IntKind.signed]; omega
    have d2 : IntKind.i64.wrap ((c.toNat : Int) - 48) = (c.toNat : Int) - 48 := IntWalk.i64_in _ ⟨by omega, by omega⟩
    clear h1 h2 h3
    go_enter Tryd.func116, Tryd.ntmps116
    go_wp2
    go_ret
    exact ⟨by rw [HN.out]; rfl, rfl⟩
  · have HN := Lib.hid h3
    have c1 : (97 : Int) ≤ (c.toNat : Int) := by omega
    have c2 : (c.toNat : Int) ≤ 102 := by omega
    have c3 : (48 : Int) ≤ (c.toNat : Int) := by omega
    have c4 : ¬ (c.toNat : Int) ≤ 57 := by omega
    have d1 : IntKind.u8.wrap ((c.toNat : Int) - 97) = (c.toNat : Int) - 97 := by simp [IntKind.wrap, IntKind.bits, IntKind.signed]; omega
    have d2 : IntKind.i64.wrap ((c.toNat : Int) - 97) = (c.toNat : Int) - 97 := IntWalk.i64_in _ ⟨by omega, by omega⟩
    have d3 : IntKind.i64.wrap ((c.toNat : Int) - 97 + 10) = (c.toNat : Int) - 97 + 10 := IntWalk.i64_in _ ⟨by omega, by omega⟩
    clear h0 h1 h2 h3
    go_enter Tryd.func116, Tryd.ntmps116
    go_wp2
    go_ret
    exact ⟨by rw [HN.out]; rfl, rfl⟩
  · have HN := Lib.hid h3
    have hc : ((48 : Int) ≤ (c.toNat : Int) ∧ ¬ (c.toNat : Int) ≤ 57) ∨ ¬ (48 : Int) ≤ (c.toNat : Int) := by omega
    have hd : ((97 : Int) ≤ (c.toNat : Int) ∧ ¬ (c.toNat : Int) ≤ 102) ∨ ¬ (97 : Int) ≤ (c.toNat : Int) := by omega
    clear h0 h1 h3
    rcases hc with ⟨c1, c2⟩ | c1
    all_goals rcases hd with ⟨e1, e2⟩ | e1
    all_goals (
      go_enter Tryd.func116, Tryd.ntmps116
      go_wp2
      go_ret
      exact ⟨by rw [HN.out]; rfl, rfl⟩)
theorem nib_q (c : UInt8) (w : World) (n : Nat) : Calls Tryd.prog 116 #[.int .u8 (c.toNat : Int)] (w.drewN n) fun e w' => e = .returned (.int .i64 (nibN c)) ∧ ∃ m, w' = w.drewN m :=
  (nibble_any c _).mono fun e w' ⟨he, hw⟩ => ⟨he, n, hw.symm⟩
/-- what the reference has read of a text -/
def QuRel (s : ByteArray) (n : Nat) (acc : List UInt8) (p : Nat) : Prop := ∃ f, s.size + 1 ≤ f + p ∧ p ≤ s.size ∧ acc.length + n ≤ p ∧ quoteR (s.size + 1) (s.data.toList.drop (n + 1)) = (quoteR f (s.data.toList.drop p)).map fun z => (acc ++ z.1, z.2)
theorem QuRel.start (s : ByteArray) (n : Nat) (hn : n < s.size) : QuRel s n [] (n + 1) := ⟨s.size + 1, by omega, by omega, by simp, by cases quoteR (s.size + 1) (s.data.toList.drop (n + 1)) <;> simp⟩
theorem quoteR_nil (f : Nat) : quoteR f [] = none := by cases f <;> rfl
theorem QuRel.stop {s : ByteArray} {n p : Nat} {acc : List UInt8} (h : QuRel s n acc p) (hp : ¬ p < s.size) : quoteR (s.size + 1) (s.data.toList.drop (n + 1)) = none := by
  obtain ⟨f, _, _, _, h⟩ := h
  rw [h, drop_out s p hp, quoteR_nil]
  rfl
theorem QuRel.close {s : ByteArray} {n p : Nat} {acc : List UInt8} (h : QuRel s n acc p) (hp : p < s.size) (hu : byteU s p = 34) : quoteR (s.size + 1) (s.data.toList.drop (n + 1)) = some (acc, s.data.toList.drop (p + 1)) := by
  obtain ⟨f, hf, _, _, h⟩ := h
  obtain ⟨f, rfl⟩ : ∃ g, f = g + 1 := ⟨f - 1, by omega⟩
  rw [h, byteU_drop s p hp, hu, quoteR_cons, if_pos rfl]
  simp
theorem QuRel.no {s : ByteArray} {n p : Nat} {acc : List UInt8} (h : QuRel s n acc p) (hp : p < s.size) (hu : byteU s p ≠ 34) (he : (if byteU s p < 32 ∨ 126 < byteU s p then none else if byteU s p = 92 then escR (s.data.toList.drop (p + 1)) else some (byteU s p, s.data.toList.drop (p + 1))) = none) : quoteR (s.size + 1) (s.data.toList.drop (n + 1)) = none := by
  obtain ⟨f, hf, _, _, h⟩ := h
  obtain ⟨f, rfl⟩ : ∃ g, f = g + 1 := ⟨f - 1, by omega⟩
  rw [h, byteU_drop s p hp, quoteR_cons, if_neg hu, he]
  rfl
theorem QuRel.go {s : ByteArray} {n p q : Nat} {acc : List UInt8} {d : UInt8} (h : QuRel s n acc p) (hp : p < s.size) (hu : byteU s p ≠ 34) (hq : p < q) (hq2 : q ≤ s.size)
    (he : (if byteU s p < 32 ∨ 126 < byteU s p then none else if byteU s p = 92 then escR (s.data.toList.drop (p + 1)) else some (byteU s p, s.data.toList.drop (p + 1))) = some (d, s.data.toList.drop q)) : QuRel s n (acc ++ [d]) q := by
  obtain ⟨f, hf, _, hl, h⟩ := h
  obtain ⟨f, rfl⟩ : ∃ g, f = g + 1 := ⟨f - 1, by omega⟩
  refine ⟨f, by omega, by omega, by simp; omega, ?_⟩
  rw [h, byteU_drop s p hp, quoteR_cons, if_neg hu, he]
  simp only
  cases quoteR f (s.data.toList.drop q) <;> simp
theorem lt_nat {a b : UInt8} : a < b ↔ a.toNat < b.toNat := UInt8.lt_iff_toNat_lt
theorem rng_92 : ¬ ((92 : UInt8) < 32 ∨ 126 < (92 : UInt8)) := by decide
theorem escR_at {s : ByteArray} {p : Nat} (hp : p + 1 < s.size) : escR (s.data.toList.drop (p + 1)) = if byteU s (p + 1) = 34 ∨ byteU s (p + 1) = 92 then some (byteU s (p + 1), s.data.toList.drop (p + 2)) else if byteU s (p + 1) = 120 then nib2 (s.data.toList.drop (p + 2)) else none := by
  rw [byteU_drop s (p + 1) hp]
  rfl
theorem nib2_at {s : ByteArray} {p : Nat} (hp : p + 3 < s.size) : nib2 (s.data.toList.drop (p + 2)) = match nibD (byteU s (p + 2)), nibD (byteU s (p + 3)) with
    | some x, some y => if 32 ≤ 16 * x + y ∧ 16 * x + y ≤ 126 then none else some (UInt8.ofNat (16 * x + y), s.data.toList.drop (p + 4))
    | _, _ => none := by
  rw [byteU_drop s (p + 2) (by omega), byteU_drop s (p + 2 + 1) (by omega)]
  rfl
theorem nib2_short {s : ByteArray} {p : Nat} (hp : ¬ p + 3 < s.size) : nib2 (s.data.toList.drop (p + 2)) = none := by
  by_cases h2 : p + 2 < s.size
  · rw [byteU_drop s (p + 2) h2, drop_out s (p + 2 + 1) (by omega)]
    rfl
  · rw [drop_out s (p + 2) h2]
    rfl
theorem str_at (s : ByteArray) (k : Nat) (z : Int) (hz : z = (k : Int)) (hk : k < s.size) (w : World) : (Instr.index 9 (.string s) (.int .i64 z)).run Tryd.prog w = .ok (.int .u8 ((byteU s k).toNat : Int)) w := by
  subst hz
  rw [str_index s k hk, byteU_Nall]
theorem lit_of {x : UInt8} {z : Int} (h : (x.toNat : Int) = z) : (#[Value.int .u8 z] : Array Value) = ([x].flatMap csU).toArray := by subst h; rfl
theorem lit_of2 {x : UInt8} {z : Int} (h : (x.toNat : Int) = z) : [Value.int .u8 z] = csU x := by subst h; rfl
theorem ne_byte {u c : UInt8} (h : u ≠ c) : ((u.toNat : Int) == (c.toNat : Int)) = false := by
  rw [beq_eq_false_iff_ne]
  intro e
  exact h (UInt8.toNat_inj.1 (by omega))
/-- what Quote tells -/
def QuPost (s : ByteArray) (n : Nat) (w : World) (e : Ending) (w' : World) : Prop :=
  Ext w w' ∧ ((∃ d n', quoteR (s.size + 1) (s.data.toList.drop (n + 1)) = some (d, s.data.toList.drop n') ∧ n' ≤ s.size ∧ n < n' ∧ e = .returned (.tuple #[.string ⟨d.toArray⟩, .int .i64 ((n' : Int) - n)])) ∨
    (quoteR (s.size + 1) (s.data.toList.drop (n + 1)) = none ∧ e = .returned (.tuple #[.string ⟨#[]⟩, .int .i64 0])))
set_option maxHeartbeats 16000000 in
theorem quote_any (s : ByteArray) (n : Nat) (w : World) (hn : n < s.size) (h34 : byteU s n = 34) (hs : s.size ≤ 1000000) :
    Calls Tryd.prog 105 #[.string s, .int .i64 n] w (QuPost s n w) := by
  have i0 := fun W => str_at s n n rfl hn W
  rw [h34, show (((34 : UInt8).toNat : Nat) : Int) = 34 from rfl] at i0
  have c0 : ¬ (s.size : Int) ≤ n := by omega
  have d0 : IntKind.i64.wrap ((n : Int) + 1) = (n : Int) + 1 := IntWalk.i64_in _ ⟨by omega, by omega⟩
  go_enter Tryd.func105, Tryd.ntmps105
  go_wp2
  clear i0 c0 d0 h34
  go_loopw [7, 6, 4, 5] (fun i v _ _ wr => ∃ (p : Nat) (acc : List UInt8), QuRel s n acc p ∧ i = .int .i64 p ∧ OwnU wr w.heap.size v acc ∧ Ext w wr) (fun i _ _ _ _ => s.size - (intOf i).toNat)
  case atStart => exact ⟨n + 1, [], QuRel.start s n hn, by go_num, OwnG.nil _ _ _ _ _, Ext.refl w⟩
  case round =>
    obtain ⟨p, acc, hrel, rfl, hown, hx⟩ := hrel
    obtain ⟨_, _, hps, hal, _⟩ := id hrel
    have HL := Lib.hid hal
    clear hal
    have d1 : IntKind.i64.wrap ((p : Int) + 1) = (p : Int) + 1 := IntWalk.i64_in _ ⟨by omega, by omega⟩
    by_cases hlt : p < s.size
    · have c1 : (p : Int) < s.size := by omega
      have i0 := fun W => str_at s p p rfl hlt W
      by_cases q1 : byteU s p = 34
      · have HF := Lib.hid (hrel.close hlt q1)
        rw [q1, show (((34 : UInt8).toNat : Nat) : Int) = 34 from rfl] at i0
        have hT := run_text_own hown (Ext.refl wr)
        have c2 : ¬ (s.size : Int) ≤ p := by omega
        have d2 : IntKind.i64.wrap ((p : Int) + 1 - n) = (p : Int) + 1 - n := by
          have := HL.out
          exact IntWalk.i64_in _ ⟨by omega, by omega⟩
        clear hrel q1
        go_wp2
        go_ret2
        exact ⟨hx, .inl ⟨acc, p + 1, HF.out, by omega, by have := HL.out; omega, by rw [show ((p + 1 : Nat) : Int) = (p : Int) + 1 from by omega]; rfl⟩⟩
      · have n34 := ne_byte q1
        rw [show (((34 : UInt8).toNat : Nat) : Int) = 34 from rfl] at n34
        by_cases q2 : byteU s p < 32 ∨ 126 < byteU s p
        · have HF := Lib.hid (hrel.no hlt q1 (by rw [if_pos q2]))
          rw [lt_nat, lt_nat] at q2
          have q2 : (byteU s p).toNat < 32 ∨ 126 < (byteU s p).toNat := q2
          have hc : ((byteU s p).toNat : Int) < 32 ∨ (¬ ((byteU s p).toNat : Int) < 32 ∧ (126 : Int) < ((byteU s p).toNat : Int)) := by omega
          generalize byteU s p = u at *
          clear hrel q1 q2
          rcases hc with hc | ⟨hc0, hc⟩
          all_goals (
            go_wp2
            go_ret2
            exact ⟨hx, .inr ⟨HF.out, rfl⟩⟩)
        · have q2' := q2
          rw [lt_nat, lt_nat] at q2'
          have q2' : ¬ ((byteU s p).toNat < 32 ∨ 126 < (byteU s p).toNat) := q2'
          have c3 : ¬ ((byteU s p).toNat : Int) < 32 := by omega
          have c4 : ¬ (126 : Int) < ((byteU s p).toNat : Int) := by omega
          by_cases q3 : byteU s p = 92
          · rw [q3] at i0
            rw [show (((92 : UInt8).toNat : Nat) : Int) = 92 from rfl] at i0
            clear n34 c3 c4 q2'
            have hesc : ∀ z, escR (s.data.toList.drop (p + 1)) = z → (if byteU s p < 32 ∨ 126 < byteU s p then none else if byteU s p = 92 then escR (s.data.toList.drop (p + 1)) else some (byteU s p, s.data.toList.drop (p + 1))) = z := fun z hz => by rw [if_neg q2, if_pos q3, hz]
            by_cases e1 : p + 1 < s.size
            · have c5 : (p : Int) + 1 < s.size := by omega
              have i1 := fun W => str_at s (p + 1) ((p : Int) + 1) (by omega) e1 W
              have d2 : IntKind.i64.wrap ((p : Int) + 2) = (p : Int) + 2 := IntWalk.i64_in _ ⟨by omega, by omega⟩
              by_cases e2 : byteU s (p + 1) = 34 ∨ byteU s (p + 1) = 92
              · have HR := Lib.hid (hrel.go (q := p + 2) (d := byteU s (p + 1)) hlt q1 (by omega) (by omega) (hesc _ (by rw [escR_at e1, if_pos e2])))
                have hd : ((byteU s (p + 1)).toNat : Int) = 34 ∨ ((byteU s (p + 1)).toNat : Int) = 92 := by
                  rcases e2 with e | e <;> rw [e]
                  · exact .inl rfl
                  · exact .inr rfl
                obtain ⟨x, hx1⟩ : ∃ x, byteU s (p + 1) = x := ⟨_, rfl⟩
                rw [hx1] at HR hd i1
                clear hrel q1 q2 q3 e2 hesc hx1
                have HD := Lib.hid hd
                rcases hd with hd | hd
                · rw [hd] at i1
                  have HD2 := Lib.hid hd
                  clear hd
                  go_wp2_with (at_builtin; refine wpList_app_G _ elemU rfl _ _ rfl (base := w.heap.size) (m := [x]) rfl (hown.ext ((Ext.refl _).alloc _)) rfl (SlG.lit (cs := csU) (k := 1) (fun _ => rfl) [x] ?lit rfl rfl (by simp)) (fun h => by cases h) ?a1 ?a2 ?a3 ?_)
                  case lit => first | exact lit_of HD2.out | exact lit_of2 HD2.out
                  case a1 => have := HL.out; first | omega | (simp only [List.length_cons, List.length_nil]; omega)
                  case a2 => have := HL.out; first | omega | (simp only [List.length_cons, List.length_nil]; omega)
                  case a3 => have := hx.size; simp; omega
                  intro v' w' hown' hb'
                  go_wp2
                  go_roundw
                  case rel => exact ⟨p + 2, _, HR.out, by go_num, hown', below_ext (hx.alloc _) hb' (Nat.le_refl _)⟩
                  case measure => simp [intOf]; omega
                · rw [hd] at i1
                  have HD2 := Lib.hid hd
                  clear hd
                  go_wp2_with (at_builtin; refine wpList_app_G _ elemU rfl _ _ rfl (base := w.heap.size) (m := [x]) rfl (hown.ext ((Ext.refl _).alloc _)) rfl (SlG.lit (cs := csU) (k := 1) (fun _ => rfl) [x] ?lit rfl rfl (by simp)) (fun h => by cases h) ?a1 ?a2 ?a3 ?_)
                  case lit => first | exact lit_of HD2.out | exact lit_of2 HD2.out
                  case a1 => have := HL.out; first | omega | (simp only [List.length_cons, List.length_nil]; omega)
                  case a2 => have := HL.out; first | omega | (simp only [List.length_cons, List.length_nil]; omega)
                  case a3 => have := hx.size; simp; omega
                  intro v' w' hown' hb'
                  go_wp2
                  go_roundw
                  case rel => exact ⟨p + 2, _, HR.out, by go_num, hown', below_ext (hx.alloc _) hb' (Nat.le_refl _)⟩
                  case measure => simp [intOf]; omega
              · have g34 : byteU s (p + 1) ≠ 34 := fun e => e2 (.inl e)
                have g92 : byteU s (p + 1) ≠ 92 := fun e => e2 (.inr e)
                have n34 := ne_byte g34
                have n92 := ne_byte g92
                rw [show (((34 : UInt8).toNat : Nat) : Int) = 34 from rfl] at n34
                rw [show (((92 : UInt8).toNat : Nat) : Int) = 92 from rfl] at n92
                have d3 : IntKind.i64.wrap ((p : Int) + 3) = (p : Int) + 3 := IntWalk.i64_in _ ⟨by omega, by omega⟩
                have d4 : IntKind.i64.wrap ((p : Int) + 4) = (p : Int) + 4 := IntWalk.i64_in _ ⟨by omega, by omega⟩
                by_cases e3 : p + 3 < s.size
                · have c6 : (p : Int) + 3 < s.size := by omega
                  by_cases e4 : byteU s (p + 1) = 120
                  · have i2 := fun W => str_at s (p + 2) ((p : Int) + 2) (by omega) (by omega) W
                    have i3 := fun W => str_at s (p + 3) ((p : Int) + 3) (by omega) e3 W
                    have hE : escR (s.data.toList.drop (p + 1)) = nib2 (s.data.toList.drop (p + 2)) := by rw [escR_at e1, if_neg e2, if_pos e4]
                    rw [nib2_at e3] at hE
                    rw [e4] at i1
                    rw [show (((120 : UInt8).toNat : Nat) : Int) = 120 from rfl] at i1
                    clear n34 n92
                    have k2 := nibN_in (byteU s (p + 2))
                    have k3 := nibN_in (byteU s (p + 3))
                    have hN2 := fun W => nibble_any (byteU s (p + 2)) W
                    have hN3 := fun W => nibble_any (byteU s (p + 3)) W
                    obtain ⟨x2, hx2⟩ : ∃ x, byteU s (p + 2) = x := ⟨_, rfl⟩
                    obtain ⟨x3, hx3⟩ : ∃ x, byteU s (p + 3) = x := ⟨_, rfl⟩
                    rw [hx2] at hN2 k2 i2 hE
                    rw [hx3] at hN3 k3 i3 hE
                    clear hx2 hx3
                    rcases k2 with ⟨k2, m2⟩ | ⟨y2, k2, m2, l2⟩
                    · have HF := Lib.hid (hrel.no hlt q1 (hesc _ (by rw [hE, k2])))
                      rw [m2] at hN2
                      clear hrel q1 q2 q3 e2 hesc hE k2 k3 m2 g34 g92 e4 i3 hN3
                      go_wp2_with (go_at_call 116; refine (hN2 _).mono ?_; rintro e w1 ⟨rfl, rfl⟩)
                      go_ret2
                      exact ⟨hx, .inr ⟨HF.out, rfl⟩⟩
                    · rcases k3 with ⟨k3, m3⟩ | ⟨y3, k3, m3, l3⟩
                      · have HF := Lib.hid (hrel.no hlt q1 (hesc _ (by rw [hE, k2, k3])))
                        rw [m2] at hN2
                        rw [m3] at hN3
                        have c7 : (0 : Int) ≤ (y2 : Int) := by omega
                        clear hrel q1 q2 q3 e2 hesc hE k2 k3 m2 m3 g34 g92 e4
                        go_wp2_with (fail)
                        go_at_call 116
                        refine (hN2 _).mono ?_
                        rintro e w1 ⟨rfl, rfl⟩
                        dsimp only
                        go_wp2_with (fail)
                        go_at_call 116
                        refine (hN3 _).mono ?_
                        rintro e w1 ⟨rfl, rfl⟩
                        dsimp only
                        go_wp2
                        go_ret2
                        exact ⟨hx, .inr ⟨HF.out, rfl⟩⟩
                      · have c7 : (0 : Int) ≤ (y2 : Int) := by omega
                        have c8 : (0 : Int) ≤ (y3 : Int) := by omega
                        have d5 : IntKind.i64.wrap (16 * (y2 : Int)) = 16 * (y2 : Int) := IntWalk.i64_in _ ⟨by omega, by omega⟩
                        have d6 : IntKind.i64.wrap (16 * (y2 : Int) + (y3 : Int)) = 16 * (y2 : Int) + (y3 : Int) := IntWalk.i64_in _ ⟨by omega, by omega⟩
                        have hq : ∀ (c : Int) (W : World) (m : Nat), ∀ r, ((c = (x2.toNat : Int) ∧ r = (y2 : Int)) ∨ (c = (x3.toNat : Int) ∧ r = (y3 : Int))) → Calls Tryd.prog 116 #[.int .u8 c] (W.drewN m) fun e w' => e = .returned (.int .i64 r) ∧ ∃ m, w' = W.drewN m := by
                          rintro c W m r (⟨rfl, rfl⟩ | ⟨rfl, rfl⟩)
                          · rw [← m2]; exact nib_q x2 W m
                          · rw [← m3]; exact nib_q x3 W m
                        rw [m2] at hN2
                        rw [m3] at hN3
                        by_cases e5 : 32 ≤ 16 * y2 + y3 ∧ 16 * y2 + y3 ≤ 126
                        · have HF := Lib.hid (hrel.no hlt q1 (hesc _ (by rw [hE, k2, k3]; simp only; rw [if_pos e5])))
                          have c9 : (32 : Int) ≤ 16 * (y2 : Int) + (y3 : Int) := by omega
                          have c10 : 16 * (y2 : Int) + (y3 : Int) ≤ 126 := by omega
                          clear hrel q1 q2 q3 e2 hesc hE k2 k3 m2 m3 g34 g92 e4 e5
                          go_wp2_with (fail)
                          go_at_call 116
                          refine (hN2 _).mono ?_
                          rintro e w1 ⟨rfl, rfl⟩
                          dsimp only
                          go_wp2_with (fail)
                          go_at_call 116
                          refine (hN3 _).mono ?_
                          rintro e w1 ⟨rfl, rfl⟩
                          dsimp only
                          go_wp2
                          go_quiet ((go_at_call 116; exact hq _ _ _ _ (by first | exact .inl ⟨rfl, rfl⟩ | exact .inr ⟨rfl, rfl⟩)))
                          go_wp2
                          go_ret2
                          exact ⟨hx.drewN _, .inr ⟨HF.out, rfl⟩⟩
                        · have HR := Lib.hid (hrel.go (q := p + 4) (d := UInt8.ofNat (16 * y2 + y3)) hlt q1 (by omega) (by omega) (hesc _ (by rw [hE, k2, k3]; simp only; rw [if_neg e5])))
                          have hcc : (¬ (32 : Int) ≤ 16 * (y2 : Int) + (y3 : Int)) ∨ ((32 : Int) ≤ 16 * (y2 : Int) + (y3 : Int) ∧ ¬ 16 * (y2 : Int) + (y3 : Int) ≤ 126) := by omega
                          have hx8 : ((UInt8.ofNat (16 * y2 + y3)).toNat : Int) = 16 * (y2 : Int) + (y3 : Int) := by
                            have : (UInt8.ofNat (16 * y2 + y3)).toNat = 16 * y2 + y3 := by simp; omega
                            rw [this]
                            omega
                          have d7 : IntKind.u8.wrap (16 * (y2 : Int) + (y3 : Int)) = 16 * (y2 : Int) + (y3 : Int) := by simp [IntKind.wrap, IntKind.bits, IntKind.signed]; omega
                          obtain ⟨x, hx1⟩ : ∃ x, UInt8.ofNat (16 * y2 + y3) = x := ⟨_, rfl⟩
                          rw [hx1] at HR hx8
                          have HX8 := Lib.hid hx8
                          clear hrel q1 q2 q3 e2 hesc hE k2 k3 m2 m3 g34 g92 e4 e5 hx1 hx8
                          go_wp2_with (fail)
                          go_at_call 116
                          refine (hN2 _).mono ?_
                          rintro e w1 ⟨rfl, rfl⟩
                          dsimp only
                          go_wp2_with (fail)
                          go_at_call 116
                          refine (hN3 _).mono ?_
                          rintro e w1 ⟨rfl, rfl⟩
                          dsimp only
                          go_wp2
                          go_quiet ((go_at_call 116; exact hq _ _ _ _ (by first | exact .inl ⟨rfl, rfl⟩ | exact .inr ⟨rfl, rfl⟩)))
                          rcases hcc with cc | ⟨cc1, cc2⟩
                          · skip
                            go_wp2_with (at_builtin; refine wpList_app_G _ elemU rfl _ _ rfl (base := w.heap.size) (m := [x]) rfl ((hown.ext ((Ext.refl _).drewN _)).ext ((Ext.refl _).alloc _)) rfl (SlG.lit (cs := csU) (k := 1) (fun _ => rfl) [x] ?lit rfl rfl (by simp)) (fun h => by cases h) ?a1 ?a2 ?a3 ?_)
                            case lit => first | exact lit_of HX8.out | exact lit_of2 HX8.out
                            case a1 => have := HL.out; first | omega | (simp only [List.length_cons, List.length_nil]; omega)
                            case a2 => have := HL.out; first | omega | (simp only [List.length_cons, List.length_nil]; omega)
                            case a3 => have := hx.size; simp; omega
                            intro v' w' hown' hb'
                            go_wp2
                            go_roundw
                            case rel => exact ⟨p + 4, _, HR.out, by go_num, hown', below_ext ((hx.drewN _).alloc _) hb' (Nat.le_refl _)⟩
                            case measure => simp [intOf]; omega
                          · skip
                            go_wp2_with (at_builtin; refine wpList_app_G _ elemU rfl _ _ rfl (base := w.heap.size) (m := [x]) rfl ((hown.ext ((Ext.refl _).drewN _)).ext ((Ext.refl _).alloc _)) rfl (SlG.lit (cs := csU) (k := 1) (fun _ => rfl) [x] ?lit rfl rfl (by simp)) (fun h => by cases h) ?a1 ?a2 ?a3 ?_)
                            case lit => first | exact lit_of HX8.out | exact lit_of2 HX8.out
                            case a1 => have := HL.out; first | omega | (simp only [List.length_cons, List.length_nil]; omega)
                            case a2 => have := HL.out; first | omega | (simp only [List.length_cons, List.length_nil]; omega)
                            case a3 => have := hx.size; simp; omega
                            intro v' w' hown' hb'
                            go_wp2
                            go_roundw
                            case rel => exact ⟨p + 4, _, HR.out, by go_num, hown', below_ext ((hx.drewN _).alloc _) hb' (Nat.le_refl _)⟩
                            case measure => simp [intOf]; omega
                  · have HF := Lib.hid (hrel.no hlt q1 (hesc _ (by rw [escR_at e1, if_neg e2, if_neg e4])))
                    have n120 := ne_byte e4
                    rw [show (((120 : UInt8).toNat : Nat) : Int) = 120 from rfl] at n120
                    generalize byteU s (p + 1) = x at *
                    clear hrel q1 q2 q3 e2 hesc g34 g92 e4
                    go_wp2
                    go_ret2
                    exact ⟨hx, .inr ⟨HF.out, rfl⟩⟩
                · have c6 : ¬ (p : Int) + 3 < s.size := by omega
                  have HF := Lib.hid (hrel.no hlt q1 (hesc _ (by
                    rw [escR_at e1, if_neg e2]
                    split
                    · exact nib2_short e3
                    · rfl)))
                  generalize byteU s (p + 1) = x at *
                  clear hrel q1 q2 q3 e2 hesc g34 g92
                  go_wp2
                  go_ret2
                  exact ⟨hx, .inr ⟨HF.out, rfl⟩⟩
            · have c5 : ¬ (p : Int) + 1 < s.size := by omega
              have c6 : ¬ (p : Int) + 3 < s.size := by omega
              have d3 : IntKind.i64.wrap ((p : Int) + 3) = (p : Int) + 3 := IntWalk.i64_in _ ⟨by omega, by omega⟩
              have HF := Lib.hid (hrel.no hlt q1 (hesc _ (by rw [drop_out s (p + 1) e1]; rfl)))
              clear hrel q1 q2 q3 hesc
              go_wp2
              go_ret2
              exact ⟨hx, .inr ⟨HF.out, rfl⟩⟩
          · have HR := Lib.hid (hrel.go (q := p + 1) (d := byteU s p) hlt q1 (by omega) (by omega) (by rw [if_neg q2, if_neg q3]))
            have n92 := ne_byte q3
            rw [show (((92 : UInt8).toNat : Nat) : Int) = 92 from rfl] at n92
            generalize byteU s p = x at *
            clear hrel q1 q2 q3 q2'
            go_wp2_with (at_builtin; refine wpList_app_G _ elemU rfl _ _ rfl (base := w.heap.size) (m := [x]) rfl (hown.ext ((Ext.refl _).alloc _)) rfl (SlG.lit (cs := csU) (k := 1) (fun _ => rfl) [x] ?lit rfl rfl (by simp)) (fun h => by cases h) ?a1 ?a2 ?a3 ?_)
            case lit => rfl
            case a1 => have := HL.out; first | omega | (simp only [List.length_cons, List.length_nil]; omega)
            case a2 => have := HL.out; first | omega | (simp only [List.length_cons, List.length_nil]; omega)
            case a3 => have := hx.size; simp; omega
            intro v' w' hown' hb'
            go_wp2
            go_roundw
            case rel => exact ⟨p + 1, _, HR.out, by go_num, hown', below_ext (hx.alloc _) hb' (Nat.le_refl _)⟩
            case measure => simp [intOf]; omega
    · have c1 : ¬ (p : Int) < s.size := by omega
      have c2 : (s.size : Int) ≤ p := by omega
      have HF := Lib.hid (hrel.stop hlt)
      clear hrel
      go_wp2
      go_ret2
      exact ⟨hx, .inr ⟨HF.out, rfl⟩⟩
end
end Go.Proofs.YtepgpejdnlejnaaDoor

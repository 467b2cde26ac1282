/- CaAw; CaRr; CaPa (merged by group.py) -/
import Derived.Test.YtcbinafokhekmaaGreatDoorQ22
import Derived.Test.YtcbinafokhekmaaGreatDoorQ21
namespace Go.Proofs.YtcbinafokhekmaaGreatDoor
section
open Go.RowKit Go.Maps
set_option linter.unusedVariables false
set_option linter.unusedSimpArgs false
set_option linter.unusedSectionVars false
set_option maxRecDepth 100000
attribute [local go_sem] Oper.semAt_some

/-- the example's row -/
def awRow : List Vl := [(1, 4, ⟨#[]⟩)]
/-- the example's table behind so many acts -/
def awT : Nat → List (Bkt Hd)
  | 0 => emptyT 1
  | n + 1 => insT 1 2 (awT n) awRow (n + 1 : Nat) false
theorem awT_full : ∀ n, FullT hdV hdH 1 2 (awT n)
  | 0 => FullT.empty hdV hdH (by omega) (by omega) (by omega) (by omega)
  | n + 1 => insT_full (awT_full n) awRow (n + 1 : Nat) false
theorem awAsk (k : Int) (h : keyB k = true) : askB awRow k = true := by
  unfold askB
  rw [h, Bool.and_true]
  decide +kernel
theorem insE1 (T : List (Bkt Hd)) (k : Int) (h : keyB k = true) : insE 1 T awRow k false = if dupB (runE T 0) awRow k false = true then 6 else if 500 ≤ cntT T then 4 else 0 := by
  unfold insE
  rw [if_neg (by rw [awAsk k h]; decide), Nat.mod_one]
theorem insT1 (T : List (Bkt Hd)) (k : Int) (h : insE 1 T awRow k false = 0) : insT 1 2 T awRow k false = insF 1 2 T 0 (awRow, k) := by
  unfold insT
  rw [if_pos h, Nat.mod_one]
theorem aw1e : insE 1 (awT 0) awRow 1 false = 0 := by rw [insE1 _ _ (by decide)]; decide +kernel
theorem aw1 : awT 1 = [([(awRow, 1)], -1)] := by
  show insT 1 2 (awT 0) awRow ((0 + 1 : Nat) : Int) false = _
  rw [show ((0 + 1 : Nat) : Int) = 1 from rfl, insT1 _ _ aw1e]
  decide +kernel
theorem aw2e : insE 1 (awT 1) awRow 2 false = 0 := by rw [insE1 _ _ (by decide), aw1]; decide +kernel
theorem aw2 : awT 2 = [([(awRow, 1), (awRow, 2)], -1)] := by
  show insT 1 2 (awT 1) awRow ((1 + 1 : Nat) : Int) false = _
  rw [show ((1 + 1 : Nat) : Int) = 2 from rfl, insT1 _ _ aw2e, aw1]
  decide +kernel
theorem aw3e : insE 1 (awT 2) awRow 3 false = 0 := by rw [insE1 _ _ (by decide), aw2]; decide +kernel
theorem aw3 : awT 3 = [([(awRow, 1), (awRow, 2)], 1), ([(awRow, 3)], -1)] := by
  show insT 1 2 (awT 2) awRow ((2 + 1 : Nat) : Int) false = _
  rw [show ((2 + 1 : Nat) : Int) = 3 from rfl, insT1 _ _ aw3e, aw2]
  decide +kernel
theorem awE (n : Nat) (h : n < 3) : insE 1 (awT n) awRow ((n : Int) + 1) false = 0 := by
  match n, h with
  | 0, _ => exact aw1e
  | 1, _ => exact aw2e
  | 2, _ => exact aw3e
theorem aw4e : remE 1 (awT 3) awRow 1 = 0 := by
  unfold remE
  rw [if_neg (by rw [awAsk 1 (by decide)]; decide), Nat.mod_one, aw3]
  decide +kernel
theorem aw4 : remT 1 2 (awT 3) awRow 1 = [([(awRow, 2), (awRow, 3)], -1)] := by
  unfold remT
  rw [if_pos aw4e, Nat.mod_one, aw3]
  decide +kernel
theorem awT_len : ∀ n, n ≤ 3 → (awT n).length ≤ 2 := fun n hn => by
  match n, hn with
  | 0, _ => show (emptyT 1 : List (Bkt Hd)).length ≤ 2; decide
  | 1, _ => rw [aw1]; decide
  | 2, _ => rw [aw2]; decide
  | 3, _ => rw [aw3]; decide
theorem aw_bk {l : List BkR} (h : absT l = awT 3) : l.length = 2 ∧ (nthBk l 0).2 = 1 ∧ (nthBk l 1).1.2.2.length = 1 := by
  have h0 := congrArg List.length h
  rw [absT_len, aw3] at h0
  have h0 : l.length = 2 := h0
  have h1 := absT_bkt (l := l) (i := 0) (by omega)
  have h2 := absT_bkt (l := l) (i := 1) (by omega)
  rw [h, aw3] at h1 h2
  refine ⟨h0, (congrArg Prod.snd h1).symm, ?_⟩
  have h3 := congrArg (fun x : Bkt Hd => x.1.length) h2
  simp only [bkA, List.length_map] at h3
  exact h3.symm
theorem FullT.valid {V : Hd → Prop} {H : Hd → Nat} {h r : Nat} {T : List (Bkt Hd)} (F : FullT V H h r T) : ∀ x ∈ T, ∀ y ∈ x.1, V y := by
  obtain ⟨R, L, F⟩ := F
  intro x hx y hy
  obtain ⟨b, hb⟩ := List.mem_iff_getElem?.1 hx
  by_cases ex : ∃ k, k < h ∧ ∃ i : Nat, (R k)[i]? = some b
  · obtain ⟨k, hk, i, hi⟩ := ex
    have h1 := F.good.cell k hk i b hi
    rw [hb] at h1
    injection h1 with h1
    rw [h1] at hy
    exact (F.hom k hk y (List.mem_of_mem_drop (List.mem_of_mem_take hy))).1
  · have h1 := F.good.free b (List.getElem?_eq_some_iff.1 hb).1 (fun k hk i hi => ex ⟨k, hk, i, hi⟩)
    rw [hb] at h1
    injection h1 with h1
    rw [h1] at hy
    cases hy
theorem FullT.rows_ok {h r : Nat} {raw : List BkR} (hT : FullT hdV hdH h r (absT raw)) : ∀ x ∈ raw, ∀ y ∈ x.1.2.2, rowB y.1.2.2 = true := fun x hx y hy =>
  (hT.valid (bkA x) (List.mem_map.2 ⟨x, hx, rfl⟩) (hdA y) (List.mem_map.2 ⟨y, hy, rfl⟩)).1
theorem rows_le {h r : Nat} {raw : List BkR} (hT : FullT hdV hdH h r (absT raw)) : ∀ x ∈ raw, ∀ y ∈ x.1.2.2, y.1.2.2.length ≤ 100000 := fun x hx y hy => by
  have := rowB_len (hT.rows_ok x hx y hy)
  omega
set_option maxHeartbeats 8000000 in
theorem awake_any (w : World) (ht : Tab w) : Calls Tryz.prog 8 #[] w fun e w' => e = .returned (.bool true) ∧ Ext w w' := by
  have hN := new_yes 1 2 w (by decide)
  go_enter Tryz.func8, Tryz.ntmps8
  go_wp2_with (fail)
  refine hN.mono ?_
  rintro e w1 ⟨⟨t, P, c, F, rfl, H, hF⟩, hx1⟩
  dsimp only
  have H0 := H.ext ((Ext.refl w1).alloc (.cells #[.int .i64 1, .int .i64 4, .string ⟨#[]⟩] 68))
  have hrow : SlV (w1.alloc (.cells #[.int .i64 1, .int .i64 4, .string ⟨#[]⟩] 68)) (some ⟨w1.heap.size, 0, none⟩) 1 awRow := SlG.lit (k := 3) (fun _ => rfl) awRow rfl rfl rfl (by omega)
  have hx2 := hx1.alloc (.cells #[.int .i64 1, .int .i64 4, .string ⟨#[]⟩] 68)
  have hF2 : ∀ k, F k → w.heap.size ≤ k ∧ k ≠ w1.heap.size := fun k hk => ⟨hF k hk, by have := H.Flt k hk; omega⟩
  clear hN H hF
  have hab : absT (repB 1) = awT 0 := repB_abs 1
  have h1s := hx1.size
  have hg0 : w1.heap.size < (w1.alloc (.cells #[.int .i64 1, .int .i64 4, .string ⟨#[]⟩] 68)).heap.size := by simp
  have HE := fun n h => Lib.hid (awE n h)
  have HF := fun n => Lib.hid (awT_full n)
  have HL := fun n h => Lib.hid (awT_len n h)
  have HS := fun (n : Nat) => Lib.hid (show insT 1 2 (awT n) awRow ((n : Int) + 1) false = awT (n + 1) from rfl)
  go_wp2_with (fail)
  generalize w1.alloc (.cells #[.int .i64 1, .int .i64 4, .string ⟨#[]⟩] 68) = W2 at *
  generalize w1.heap.size = g at *
  go_loopw [4] (fun i wr => ∃ (n : Nat) (F : Nat → Prop) (P : Option Addr) (c : Nat) (raw : List BkR), n ≤ 3 ∧ i = .int .i64 ((n : Int) + 1) ∧ CtO wr F t 1 2 P c raw ∧ absT raw = awT n ∧ (∀ k, F k → w.heap.size ≤ k ∧ k ≠ g) ∧ Ext w wr ∧ SlV wr (some ⟨g, 0, none⟩) 1 awRow ∧ g < wr.heap.size) (fun i _ => 4 - (intOf i).toNat)
  case atStart => exact ⟨0, F, P, c, _, by omega, rfl, H0, hab, hF2, hx2, hrow, hg0⟩
  case round =>
    obtain ⟨n, F, P, c, raw, hn, rfl, H, hab, hF, hx, hr, hg⟩ := hrel
    have hT : FullT hdV hdH 1 2 (absT raw) := by rw [hab]; exact (HF n).out
    have hlen : raw.length ≤ 2 := by have := (HL n hn).out; rw [← hab, absT_len] at this; exact this
    by_cases hlt : n < 3
    · have c1 : (n : Int) + 1 ≤ 3 := by omega
      have d1 : IntKind.i64.wrap ((n : Int) + 1 + 1) = (n : Int) + 1 + 1 := IntWalk.i64_in _ ⟨by omega, by omega⟩
      have hI := insert_any F t 1 2 P c raw (some ⟨g, 0, none⟩) 1 awRow ((n : Int) + 1) false wr H hT (by omega) (ht.ext hx) hr (fun e => by cases e) (fun _ b off e hb => by injection e with e; injection e with e; subst e; exact (hF _ hb).2 rfl)
      rw [hab, (HE n hlt).out, (HS n).out] at hI
      change Calls _ _ #[_, .slice (some ⟨g, 0, none⟩) 1 1, _, _] _ _ at hI
      clear hab H hT HE HS HL
      go_wp2_with (fail)
      go_at_call 33
      refine hI.mono ?_
      rintro e w4 ⟨rfl, raw', hab', P', c', F', H', g1, g2, hu⟩
      dsimp only
      have hx4 := hu.ext hx (fun i hi => (hF i hi).1)
      have hr4 := hr.upd hu (fun _ b off e hb => by injection e with e; injection e with e; subst e; exact (hF _ hb).2 rfl)
      have hs4 := hu.size
      have hs0 := hx.size
      go_wp2_with (fail)
      go_roundw
      case rel => exact ⟨n + 1, F', P', c', raw', by omega, by go_num, H', hab', fun k hk => (g2 k hk).elim (hF k) (fun e => ⟨by omega, by omega⟩), hx4, hr4, by omega⟩
      case measure => simp [intOf]; omega
    · obtain rfl : n = 3 := by omega
      have hle := hT.ents_le
      have hBu := fun W (hx' : Ext wr W) => buckets_any t 1 2 P c raw W ((H.ext hx').ctr (by omega) hle) (by omega) hle (rows_le hT)
      have hRm := fun W (hx' : Ext wr W) => remove_any F t 1 2 P c raw (some ⟨g, 0, none⟩) 1 awRow 1 W (H.ext hx') hT (by omega) (ht.ext (hx.trans hx')) (hr.ext hx')
      rw [hab, aw4e, aw4] at hRm
      change ∀ W, Ext wr W → Calls _ _ #[_, .slice (some ⟨g, 0, none⟩) 1 1, _] _ _ at hRm
      have hF1 : FullT hdV hdH 1 2 ([([(awRow, 2), (awRow, 3)], -1)] : List (Bkt Hd)) := by have := remT_full (HF 3).out awRow 1; rwa [aw4] at this
      have HFX := Lib.hid hF
      clear HE HS HL HF
      go_wp2_with (fail)
      go_at_call 24
      refine (hBu _ (Ext.refl _)).mono ?_
      rintro e w5 ⟨P5, c5, F5, l5, rfl, hO5, hF5, hab5, hx5, hnr5⟩
      dsimp only
      obtain ⟨k1, k2, k3⟩ := aw_bk (hab5.trans hab)
      have hs5 := hO5.sl (by omega) (FullT.ents_le (by rw [hab5]; exact hT))
      obtain ⟨b, off, hP5, g0, g1⟩ := hs5.at_ 0 (by omega)
      obtain ⟨b', off', hP5', g2, g3⟩ := hs5.at_ 1 (by omega)
      rw [hP5] at hP5'
      injection hP5' with hP5'
      injection hP5' with e1 e2
      subst hP5 e1 e2
      rw [k2] at g1
      rw [k3] at g2
      rw [k1]
      generalize (nthBk l5 1).1.1 = q1 at *
      generalize (nthBk l5 1).1.2.1 = q2 at *
      clear g0 g3 k2 k3 hs5 hO5 hab hab5 k1
      go_wp2_with (fail)
      refine (hRm _ hx5).mono ?_
      rintro e w6 ⟨rfl, raw6, hab6, P6, c6, F6, H6, _, _, hu6⟩
      dsimp only
      have hT6 : FullT hdV hdH 1 2 (absT raw6) := by rw [hab6]; exact hF1
      have hl6 : raw6.length = 1 := by have := congrArg List.length hab6; rw [absT_len] at this; exact this
      have hle6 := hT6.ents_le
      have hB6 := buckets_any t 1 2 P6 c6 raw6 w6 (H6.ctr (by omega) hle6) (by omega) hle6 (rows_le hT6)
      have hx6 := hu6.ext (hx.trans hx5) (fun i hi => (HFX.out i hi).1)
      have HAB6 := Lib.hid hab6
      clear hRm hBu hT6 hle6 hab6 hl6 hF1 hT hle
      go_wp2_with (fail)
      refine hB6.mono ?_
      rintro e w7 ⟨P7, c7, F7, l7, rfl, _, _, hab7, hx7, _⟩
      dsimp only
      have hl7 : l7.length = 1 := by have := congrArg List.length (hab7.trans HAB6.out); rw [absT_len] at this; exact this
      rw [hl7]
      clear hl7 hab7
      go_wp2_with (fail)
      go_ret
      exact ⟨rfl, hx6.trans hx7⟩
end
section
open Go.RowKit Go.Maps
set_option linter.unusedVariables false
set_option linter.unusedSimpArgs false
set_option linter.unusedSectionVars false
set_option maxRecDepth 100000
attribute [local go_sem] Oper.semAt_some

/-- whether a number of homes may be -/
def homesB (n : Int) : Bool := decide (1 ≤ n ∧ n ≤ 100)
theorem regF_ins {h2 r : Nat} {E : List Hd} {j : Nat} {row : List Vl} {k : Int} (h1 : 1 ≤ h2) (h3 : h2 ≤ 100) (r1 : 1 ≤ r) (r2 : r ≤ 20) (hE : E.Nodup) (hlen : E.length ≤ 500) (hV : ∀ x ∈ E, hdV x) (hx : E[j]? = some (row, k)) :
    FullT hdV hdH h2 r (regF hdH h2 r (E.take j)) ∧ insT h2 r (regF hdH h2 r (E.take j)) row k false = regF hdH h2 r (E.take (j + 1)) := by
  obtain ⟨f1, f2, f3, f4, _, f6⟩ := regF_step hdV hdH h1 h3 r1 r2 hE hlen hV hx
  refine ⟨f1, ?_⟩
  have hd : dupB (runE (regF hdH h2 r (E.take j)) (homeV row % h2)) row k false = false := by
    cases hd : dupB (runE (regF hdH h2 r (E.take j)) (homeV row % h2)) row k false with
    | false => rfl
    | true =>
      unfold dupB at hd
      rw [Bool.or_eq_true, any_key] at hd
      rcases hd with hd | hd
      · simp at hd
      · exact absurd hd f3
  have hask : askB row k = true := by
    unfold askB
    rw [Bool.and_eq_true]
    exact f4
  obtain ⟨_, e, _, _⟩ := insT_yes f1 hask hd f2
  rw [e]
  exact f6
/-- the entries of a list do not lie in a table's box -/
theorem SlH.off_box {w : World} {P : Option Addr} {c : Nat} {l : List HdR} (h : SlH w P c l) {t : Nat} {T : TypeId} {a b : Int} {Q : Option Addr} {n d : Nat} (hb : BoxN w t T #[.int .i64 a, .int .i64 b, .slice Q n d]) : OffH (fun i => i = t) P l := by
  refine ⟨?_, fun x hx => SlV.off_box (h.row x hx).1 hb⟩
  intro hne g off e hg
  subst hg
  cases l with
  | nil => exact hne rfl
  | cons x l =>
    obtain ⟨g', o, e2, h1⟩ := h.sl.at_ 0 x rfl
    rw [e] at e2
    injection e2 with e2
    injection e2 with e3 e4
    subst e3
    have h2 := h1 0 (.slice x.1.1 x.1.2.2.length x.1.2.1) rfl
    have h3 := h1 1 (.int .i64 x.2) rfl
    have hob : w.heap[g]? = _ := hb
    rcases o with _ | _ | _ | o <;> simp [World.cell?, hob] at h2 h3
theorem offB_empty {W : World} {base n c : Nat} {P : Option Addr} {l : List BkR} {F : Nat → Prop} (hn : NewB W base (.slice P l.length c) l) (hab : absT l = emptyT n) (hF : ∀ i, F i → i < base ∨ W.heap.size ≤ i) : OffB F P l := by
  refine ⟨fun _ b off e hb => ?_, fun x hx => ?_⟩
  · subst e
    have h1 := own_lt hn.own (g := b) rfl
    have := hF b hb
    omega
  · have h1 : bkA x ∈ absT l := List.mem_map.2 ⟨x, hx, rfl⟩
    rw [hab] at h1
    have h2 := (List.mem_replicate.1 h1).2
    have h3 : x.1.2.2.map hdA = [] := congrArg Prod.fst h2
    have h4 : x.1.2.2 = [] := List.map_eq_nil_iff.1 h3
    rw [h4]
    exact ⟨fun hne => absurd rfl hne, fun y hy => by cases hy⟩
set_option maxHeartbeats 8000000 in
theorem rregrow_no (FF : Nat → Prop) (h r : Nat) (h2 : Int) (P : Option Addr) (c : Nat) (l : List BkR) (w : World) (hs : SlB w P c l) (hoF : OffB FF P l) (hB : homesB h2 = false) :
    Calls Tryz.prog 39 #[.agg #[.int .i64 h, .int .i64 r, .slice P l.length c], .int .i64 h2] w (RefP FF h r (absT l) 7 w) := by
  have hx1 := (Ext.refl w).alloc (.cells #[.int .i64 h, .int .i64 r, .slice P l.length c] 28)
  have hx2 := hx1.alloc (.cells #[.int .i64 0, .int .i64 0, .slice none 0 0] 28)
  have hA := (BoxN.new w 28 #[.int .i64 h, .int .i64 r, .slice P l.length c]).ext ((Ext.refl _).alloc (.cells #[.int .i64 0, .int .i64 0, .slice none 0 0] 28))
  have hBx := BoxN.new (w.alloc (.cells #[.int .i64 h, .int .i64 r, .slice P l.length c] 28)) 28 #[.int .i64 0, .int .i64 0, .slice none 0 0]
  rw [show (w.alloc (.cells #[.int .i64 h, .int .i64 r, .slice P l.length c] 28)).heap.size = w.heap.size + 1 from by simp] at hBx
  obtain ⟨z1, z2, z3, z4, z5⟩ := refP_box (FF := FF) (h := h) (r := r) hBx (Nat.le_succ _) hx2 hs
  have a0 := hA.cell (i := 0) rfl
  have a1 := hA.cell (i := 1) rfl
  have a2 := hA.cell (i := 2) rfl
  have b0 := hBx.cell (i := 0) rfl
  have b1 := hBx.cell (i := 1) rfl
  have b2 := hBx.cell (i := 2) rfl
  have q0 := hBx.frozen 0
  have q1 := hBx.frozen 1
  have q2 := hBx.frozen 2
  unfold homesB at hB
  have hB := of_decide_eq_false hB
  generalize hW : ((w.alloc (.cells #[.int .i64 h, .int .i64 r, .slice P l.length c] 28)).alloc (.cells #[.int .i64 0, .int .i64 0, .slice none 0 0] 28)) = W at *
  go_enter Tryz.func39, Tryz.ntmps39
  by_cases hlo : h2 < 1
  · go_wp2_with (fail)
    refine bodyPost_ret (v := .tuple #[.agg #[.int .i64 h, .int .i64 r, .slice P l.length c], .int .i64 7]) (by simp [results, Tryz.results39, go_sem, z3, z4, z5]) rfl ⟨P, c, l, rfl, rfl, z1, hoF, z2⟩
  · have hhi : 100 < h2 := by omega
    have hlo2 : (decide (h2 < 1)) = false := by simpa using hlo
    go_wp2_with (fail)
    refine bodyPost_ret (v := .tuple #[.agg #[.int .i64 h, .int .i64 r, .slice P l.length c], .int .i64 7]) (by simp [results, Tryz.results39, go_sem, z3, z4, z5]) rfl ⟨P, c, l, rfl, rfl, z1, hoF, z2⟩
set_option maxHeartbeats 16000000 in
theorem rregrow_yes (FF : Nat → Prop) (h h2 r : Nat) (P : Option Addr) (c : Nat) (l : List BkR) (w : World) (hs : SlB w P c l) (hT : FullT hdV hdH h r (absT l)) (hFF : ∀ i, FF i → i < w.heap.size) (hb1 : 1 ≤ h2) (hb2 : h2 ≤ 100) :
    Calls Tryz.prog 39 #[.agg #[.int .i64 h, .int .i64 r, .slice P l.length c], .int .i64 (h2 : Nat)] w (RefP FF h2 r (regT h h2 r (absT l)) 0 w) := by
  obtain ⟨hh1, hh2, hr1, hr2⟩ := hT.hh
  have hx1 := (Ext.refl w).alloc (.cells #[.int .i64 h, .int .i64 r, .slice P l.length c] 28)
  have hx2 := hx1.alloc (.cells #[.int .i64 0, .int .i64 0, .slice none 0 0] 28)
  have hA := (BoxN.new w 28 #[.int .i64 h, .int .i64 r, .slice P l.length c]).ext ((Ext.refl _).alloc (.cells #[.int .i64 0, .int .i64 0, .slice none 0 0] 28))
  have hBx := BoxN.new (w.alloc (.cells #[.int .i64 h, .int .i64 r, .slice P l.length c] 28)) 28 #[.int .i64 0, .int .i64 0, .slice none 0 0]
  rw [show (w.alloc (.cells #[.int .i64 h, .int .i64 r, .slice P l.length c] 28)).heap.size = w.heap.size + 1 from by simp] at hBx
  have a0 := hA.cell (i := 0) rfl
  have a1 := hA.cell (i := 1) rfl
  have a2 := hA.cell (i := 2) rfl
  have hEm := fun W => rempty_any FF h2 r W (by omega) (by omega)
  have hEn := hT.all_nodup
  have hEl := hT.all_len
  have hEV := hT.all_valid
  have HST := fun (j : Nat) (row : List Vl) (k : Int) (hx : (allE h (absT l))[j]? = some (row, k)) => Lib.hid (regF_ins hb1 hb2 hr1 hr2 hEn hEl hEV hx)
  have HFL := fun (j : Nat) (hj : j ≤ (allE h (absT l)).length) => Lib.hid (regF_len h2 r hb1 hb2 hr1 hr2 hEn hEl hEV j hj)
  have HAT := fun (i q : Nat) (hi : i < h) (hq : q < (runE (absT l) i).length) => Lib.hid (allE_at (absT l) h i hi q hq)
  have HLS := fun i => Lib.hid (lenE_succ (absT l) i)
  have HLE := Lib.hid (show lenE (absT l) h = (allE h (absT l)).length from rfl)
  have HEN := fun W (hx : Ext w W) (i : Nat) (hi : i < h) => rentries_any h r P c l (i : Nat) (pathOf (absT l) i) W (hs.ext hx) (hT.way hi) (by have := (hT.path hi).2.2; omega) (by change (runR l i).length ≤ _; have := runR_len hT hi; omega)
  unfold Tb at HEN
  have HRL := fun (i : Nat) (hi : i < h) => Lib.hid (runR_len hT hi)
  have HRA := fun (i : Nat) (hi : i < h) => Lib.hid (runR_abs hT hi)
  change ∀ W, Ext w W → ∀ i : Nat, i < h → Calls _ _ _ _ fun e w' => (∃ P' c', e = .returned (.slice P' (runR l i).length c') ∧ SlH w' P' c' (runR l i)) ∧ Ext W w' at HEN
  unfold regT
  generalize hT0 : absT l = T0 at *
  have lo : ¬ (h2 : Int) < 1 := by omega
  have hi2 : ¬ (100 : Int) < h2 := by omega
  clear hT hT0 hEn hEV
  go_enter Tryz.func39, Tryz.ntmps39
  go_wp2_with (fail)
  generalize ((w.alloc (.cells #[.int .i64 h, .int .i64 r, .slice P l.length c] 28)).alloc (.cells #[.int .i64 0, .int .i64 0, .slice none 0 0] 28)) = W0 at *
  go_wp2_with (fail)
  go_at_call 76
  refine (hEm _).mono ?_
  rintro e w1 ⟨v1, l1, rfl, hn1, hab1, ho1, x1⟩
  dsimp only
  have hl1 : l1.length = h2 := by
    have := congrArg List.length hab1
    rw [absT_len] at this
    simpa [emptyT] using this
  obtain ⟨P1, c1, rfl, hs1⟩ := hn1.sl (by omega)
  have hof1 := hn1.offB (fun i hi => Nat.lt_of_lt_of_le (hFF i hi) hx2.size) ho1 (P := P1) (n := l1.length) (c := c1) rfl
  clear hEm
  have HOB := Lib.hid (fun (G : Nat → Prop) hG => offB_empty (F := G) hn1 hab1 hG)
  have h0s := x1.size
  have hB0 := hBx.ext x1
  have hBlt : w.heap.size + 1 < W0.heap.size := hBx.lt
  have hb6 := BoxN.new w1 28 #[.int .i64 h2, .int .i64 r, .slice P1 l1.length c1]
  have hs16 := hs1.ext ((Ext.refl w1).alloc (.cells #[.int .i64 h2, .int .i64 r, .slice P1 l1.length c1] 28))
  have x16 := x1.trans ((Ext.refl w1).alloc (.cells #[.int .i64 h2, .int .i64 r, .slice P1 l1.length c1] 28))
  have Hn0 : absT l1 = regF hdH h2 r ((allE h T0).take 0) := by rw [hab1]; rfl
  have hof6 := HOB.out (fun i => FF i ∨ i = w.heap.size + 1 ∨ i = w1.heap.size) (fun i hi => by
    rcases hi with hi | hi | hi
    · have := hFF i hi; omega
    · omega
    · omega)
  have hFG : ∀ i, (FF i ∨ i = w.heap.size + 1 ∨ i = w1.heap.size) → i < w1.heap.size + 1 := fun i hi => by
    rcases hi with hi | hi | hi
    · have := hFF i hi; omega
    · omega
    · omega
  clear hn1 ho1 hof1 hs1 HOB hab1 hl1
  go_wp2_with (fail)
  generalize w1.alloc (.cells #[.int .i64 h2, .int .i64 r, .slice P1 l1.length c1] 28) = W1 at *
  go_loopw [7] (fun a wr => ∃ (i : Nat) (rn : List BkR) (Pn : Option Addr) (cn : Nat), i ≤ h ∧ a = .int .i64 i ∧ BoxN wr w1.heap.size 28 #[.int .i64 h2, .int .i64 r, .slice Pn rn.length cn] ∧ SlB wr Pn cn rn ∧ OffB (fun i => FF i ∨ i = w.heap.size + 1 ∨ i = w1.heap.size) Pn rn ∧ absT rn = regF hdH h2 r ((allE h T0).take (lenE T0 i)) ∧ Ext W0 wr ∧ lenE T0 i ≤ (allE h T0).length) (fun a _ => h - (intOf a).toNat)
  case atStart => exact ⟨0, l1, P1, c1, by omega, rfl, hb6, hs16, hof6, Hn0, x16, Nat.zero_le _⟩
  case round =>
    obtain ⟨i, rn, Pn, cn, hi, rfl, hbx, hsn, hon, hab, hx, hle⟩ := hrel
    have hA' := hA.ext hx
    have a0 := hA'.cell (i := 0) rfl
    have a1 := hA'.cell (i := 1) rfl
    have a2 := hA'.cell (i := 2) rfl
    by_cases hlt : i < h
    · have ci : (i : Int) < h := by omega
      have d1 : IntKind.i64.wrap ((i : Int) + 1) = (i : Int) + 1 := IntWalk.i64_in _ ⟨by omega, by omega⟩
      go_wp2_with (go_at_call 44; refine (HEN _ (hx2.trans hx) i hlt).mono ?_; rintro e w5 ⟨⟨P5, c5, rfl, hs5⟩, hx5⟩)
      have hrl := (HRL i hlt).out
      have hra := (HRA i hlt).out
      have HATi := fun q hq => HAT i q hlt hq
      have HLSi := Lib.hid ((HLS i).out)
      have hlen5 : (runE T0 i).length = (runR l i).length := by rw [← hra, List.length_map]
      have hb5 := hbx.ext hx5
      have hs5n := hsn.ext hx5
      have hx05 := hx.trans hx5
      have hof5 := hs5.off_box hb5
      have h5lt : w1.heap.size < w5.heap.size := hb5.lt
      generalize runR l i = m at *
      have HRAi := Lib.hid hra
      clear HRL HRA HAT HLS HEN hra hbx hsn hA' a0 a1 a2 ci
      go_loopw [9] (fun a wr2 => ∃ (q : Nat) (rq : List BkR) (Pq : Option Addr) (cq : Nat), q ≤ m.length ∧ a = .int .i64 q ∧ BoxN wr2 w1.heap.size 28 #[.int .i64 h2, .int .i64 r, .slice Pq rq.length cq] ∧ SlB wr2 Pq cq rq ∧ OffB (fun i => FF i ∨ i = w.heap.size + 1 ∨ i = w1.heap.size) Pq rq ∧ absT rq = regF hdH h2 r ((allE h T0).take (lenE T0 i + q)) ∧ UpdF (fun i => i = w1.heap.size) w5 wr2 ∧ lenE T0 i + q ≤ (allE h T0).length) (fun a _ => m.length - (intOf a).toNat)
      case atStart => exact ⟨0, rn, Pn, cn, by omega, rfl, hb5, hs5n, hon, hab, UpdF.refl _ _, hle⟩
      case round =>
        obtain ⟨q, rq, Pq, cq, hq, rfl, hbq, hsq, hoq, habq, hu, hle2⟩ := hrel
        by_cases hlt2 : q < m.length
        · have cq2 : (q : Int) < m.length := by omega
          have d2 : IntKind.i64.wrap ((q : Int) + 1) = (q : Int) + 1 := IntWalk.i64_in _ ⟨by omega, by omega⟩
          have hsm := hs5.upd hu hof5
          obtain ⟨b5, o5, hPP, g0, g1⟩ := hsm.at_ q hlt2
          subst hPP
          have hxE : (allE h T0)[lenE T0 i + q]? = some (hdA (nthH m q)) := by
            rw [(HATi q (by omega)).out, ← HRAi.out, List.getElem?_map, nthH_some hlt2]
            rfl
          have hjE := (List.getElem?_eq_some_iff.1 hxE).1
          have hst := (HST _ _ _ hxE).out
          have hln := (HFL (lenE T0 i + q) (by omega)).out
          rw [← habq] at hln hst
          rw [absT_len] at hln
          obtain ⟨s1, s2⟩ := hst
          have hrw := hsm.row _ (nthH_mem hlt2)
          have hszw := hu.size
          generalize nthH m q = x at *
          obtain ⟨⟨A, B, L⟩, K⟩ := x
          dsimp only [hdA] at g0 g1 hrw s2
          have hxq := hu.ext hx05 (fun i hi => by subst hi; exact h0s)
          have hrq : rq.length ≤ 1000 := by omega
          have HIN := fun W (hx' : Ext wr W) => rinsert_any (fun i => FF i ∨ i = w.heap.size + 1 ∨ i = w1.heap.size) h2 r Pq cq rq A B L K false W (hsq.ext hx') s1 hrq (fun i hi => Nat.lt_of_lt_of_le (hFG i hi) (by have := hx'.size; omega)) hoq (hrw.1.ext hx') hrw.2
          have HS2 := Lib.hid s2
          have HOQ := Lib.hid hoq
          have HUQ := Lib.hid hu
          clear s1 s2 hsm hxE hrw hoq hu hsq
          have v0 := hbq.cell (i := 0) rfl
          have v1 := hbq.cell (i := 1) rfl
          have v2 := hbq.cell (i := 2) rfl
          go_wp2_with (fail)
          have s0 : wr.drew.cell? ⟨w1.heap.size, 0, none⟩ = some (.int .i64 h2) := v0
          have s1 : wr.drew.cell? ⟨w1.heap.size, 1, none⟩ = some (.int .i64 r) := v1
          have s2 : wr.drew.cell? ⟨w1.heap.size, 2, none⟩ = some (.slice Pq rq.length cq) := v2
          have s3 : wr.drew.cell? ⟨b5, o5 + q * 2, none⟩ = some (.slice A L.length B) := g0
          have s4 : wr.drew.cell? ⟨b5, o5 + q * 2 + 1, none⟩ = some (.int .i64 K) := g1
          clear v0 v1 v2 g0 g1
          refine wp_region_noPanic ?_
          refine wp_region_F (fun w' => w'.cell? ⟨w1.heap.size, 0, none⟩ = some (.int .i64 h2) ∧ w'.cell? ⟨w1.heap.size, 1, none⟩ = some (.int .i64 r) ∧ w'.cell? ⟨w1.heap.size, 2, none⟩ = some (.slice Pq rq.length cq) ∧ w'.cell? ⟨b5, o5 + q * 2, none⟩ = some (.slice A L.length B) ∧ w'.cell? ⟨b5, o5 + q * 2 + 1, none⟩ = some (.int .i64 K)) 15 (by kernel_rfl) ?_
          refine wpAnyF_take (i := 0) (v := .agg #[.int .i64 h2, .int .i64 r, .slice Pq rq.length cq]) (fuel := 15) rfl (by kernel_rfl) (by kernel_rfl) (by kernel_rfl) (by kernel_rfl) (by kernel_rfl) rfl (fun _ _ _ h => h) (.inl ⟨rfl, fun W hS => by obtain ⟨e2, e3, e4, e5, e6⟩ := hS; go_simp⟩) ⟨s0, s1, s2, s3, s4⟩ ?_
          refine wpAnyF_take (i := 1) (v := .slice (some ⟨b5, o5, none⟩) m.length c5) (fuel := 14) rfl (by kernel_rfl) (by kernel_rfl) (by kernel_rfl) (by kernel_rfl) (by kernel_rfl) rfl (fun _ _ _ h => h) (.inl ⟨rfl, fun W hS => by obtain ⟨e2, e3, e4, e5, e6⟩ := hS; go_simp⟩) ⟨s0, s1, s2, s3, s4⟩ ?_
          refine wpAnyF_take (i := 2) (v := .int .i64 (q : Nat)) (fuel := 13) rfl (by kernel_rfl) (by kernel_rfl) (by kernel_rfl) (by kernel_rfl) (by kernel_rfl) rfl (fun _ _ _ h => h) (.inl ⟨rfl, fun W hS => by obtain ⟨e2, e3, e4, e5, e6⟩ := hS; go_simp⟩) ⟨s0, s1, s2, s3, s4⟩ ?_
          refine wpAnyF_take (i := 3) (v := .pointer (some ⟨b5, o5 + q * 2, none⟩)) (fuel := 12) rfl (by kernel_rfl) (by kernel_rfl) (by kernel_rfl) (by kernel_rfl) (by kernel_rfl) rfl (fun _ _ _ h => h) (.inl ⟨rfl, fun W hS => by obtain ⟨e2, e3, e4, e5, e6⟩ := hS; go_simp⟩) ⟨s0, s1, s2, s3, s4⟩ ?_
          refine wpAnyF_take (i := 4) (v := .pointer (some ⟨b5, o5 + q * 2, none⟩)) (fuel := 11) rfl (by kernel_rfl) (by kernel_rfl) (by kernel_rfl) (by kernel_rfl) (by kernel_rfl) rfl (fun _ _ _ h => h) (.inl ⟨rfl, fun W hS => by obtain ⟨e2, e3, e4, e5, e6⟩ := hS; go_simp⟩) ⟨s0, s1, s2, s3, s4⟩ ?_
          refine wpAnyF_take (i := 5) (v := .slice A L.length B) (fuel := 10) rfl (by kernel_rfl) (by kernel_rfl) (by kernel_rfl) (by kernel_rfl) (by kernel_rfl) rfl (fun _ _ _ h => h) (.inl ⟨rfl, fun W hS => by obtain ⟨e2, e3, e4, e5, e6⟩ := hS; go_simp⟩) ⟨s0, s1, s2, s3, s4⟩ ?_
          refine wpAnyF_take (i := 6) (v := .slice (some ⟨b5, o5, none⟩) m.length c5) (fuel := 9) rfl (by kernel_rfl) (by kernel_rfl) (by kernel_rfl) (by kernel_rfl) (by kernel_rfl) rfl (fun _ _ _ h => h) (.inl ⟨rfl, fun W hS => by obtain ⟨e2, e3, e4, e5, e6⟩ := hS; go_simp⟩) ⟨s0, s1, s2, s3, s4⟩ ?_
          refine wpAnyF_take (i := 7) (v := .int .i64 (q : Nat)) (fuel := 8) rfl (by kernel_rfl) (by kernel_rfl) (by kernel_rfl) (by kernel_rfl) (by kernel_rfl) rfl (fun _ _ _ h => h) (.inl ⟨rfl, fun W hS => by obtain ⟨e2, e3, e4, e5, e6⟩ := hS; go_simp⟩) ⟨s0, s1, s2, s3, s4⟩ ?_
          refine wpAnyF_take (i := 8) (v := .pointer (some ⟨b5, o5 + q * 2, none⟩)) (fuel := 7) rfl (by kernel_rfl) (by kernel_rfl) (by kernel_rfl) (by kernel_rfl) (by kernel_rfl) rfl (fun _ _ _ h => h) (.inl ⟨rfl, fun W hS => by obtain ⟨e2, e3, e4, e5, e6⟩ := hS; go_simp⟩) ⟨s0, s1, s2, s3, s4⟩ ?_
          refine wpAnyF_take (i := 9) (v := .pointer (some ⟨b5, o5 + q * 2 + 1, none⟩)) (fuel := 6) rfl (by kernel_rfl) (by kernel_rfl) (by kernel_rfl) (by kernel_rfl) (by kernel_rfl) rfl (fun _ _ _ h => h) (.inl ⟨rfl, fun W hS => by obtain ⟨e2, e3, e4, e5, e6⟩ := hS; go_simp⟩) ⟨s0, s1, s2, s3, s4⟩ ?_
          refine wpAnyF_take (i := 10) (v := .int .i64 K) (fuel := 5) rfl (by kernel_rfl) (by kernel_rfl) (by kernel_rfl) (by kernel_rfl) (by kernel_rfl) rfl (fun _ _ _ h => h) (.inl ⟨rfl, fun W hS => by obtain ⟨e2, e3, e4, e5, e6⟩ := hS; go_simp⟩) ⟨s0, s1, s2, s3, s4⟩ ?_
          --S2
          refine wpAnyF_one (i := 11) (fuel := 4) rfl (by kernel_rfl) rfl fun K' hK => ?_
          go_simp
          refine (HIN _ (Ext.refl wr).drew).mono ?_
          rintro e w7 ⟨P7, c7, l7, rfl, hab7, hs7, hof7, x7⟩
          have s0 := x7.cell s0
          have s1 := x7.cell s1
          have s2 := x7.cell s2
          have s3 := x7.cell s3
          have s4 := x7.cell s4
          refine hK _ _ (fun _ => ⟨s0, s1, s2, s3, s4⟩) ?_
          clear hK K' HIN
          refine wpAnyF_one (i := 12) (fuel := 3) rfl (by kernel_rfl) rfl fun K' hK => ?_
          go_simp
          refine hK _ _ (fun _ => ⟨s0, s1, s2, s3, s4⟩) ?_
          clear hK K'
          have x27 := (Ext.refl wr).drew.trans x7
          have hb7 := hbq.ext x27
          have q0 := hb7.frozen 0
          have q1 := hb7.frozen 1
          have q2 := hb7.frozen 2
          have hu7 := (((UpdF.refl (fun i => i = w1.heap.size) w7).setCell (p := ⟨w1.heap.size, 0, none⟩) (.inl rfl) (.int .i64 h2)).setCell (p := ⟨w1.heap.size, 1, none⟩) (.inl rfl) (.int .i64 r)).setCell (p := ⟨w1.heap.size, 2, none⟩) (.inl rfl) (.slice P7 l7.length c7)
          have hb8 := ((hb7.set 0 (.int .i64 h2)).set 1 (.int .i64 r)).set 2 (.slice P7 l7.length c7)
          have hs8 := hs7.upd hu7 (hof7.mono (fun i hi => .inr (.inr hi)))
          have hu8 := (HUQ.out.trans (UpdF.of_ext x27 _)).trans hu7
          have HAB7 := Lib.hid (hab7.trans HS2.out)
          refine wpAnyF_take (i := 13) (v := .agg #[.int .i64 h2, .int .i64 r, .slice P7 l7.length c7]) (fuel := 2) rfl (by kernel_rfl) (by kernel_rfl) (by kernel_rfl) (by kernel_rfl) (by kernel_rfl) rfl (fun _ _ _ h => h) (.inl ⟨rfl, fun W hS => by obtain ⟨e2, e3, e4, e5, e6⟩ := hS; go_simp⟩) ⟨s0, s1, s2, s3, s4⟩ ?_
          refine wpAnyF_two (i := 14) (j := 15) (fuel := 1) rfl rfl (by kernel_rfl) rfl rfl (fun K' hK => ?_) (fun K' hK => ?_)
          · go_simp
            refine hK _ _ (fun _ => ⟨s0, s1, s2, s3, s4⟩) ?_
            clear hK K'
            refine wpAnyF_one (i := 15) (fuel := 0) rfl (by kernel_rfl) rfl fun K' hK => ?_
            go_simp
            refine hK _ _ (fun h => by simp at h) ?_
            clear hK K'
            refine wpAnyF_done (by kernel_rfl) ?_ 0
            refine NoPanic.normal ?_
            clear s0 s1 s2 s3 s4 q0 q1 q2 hab7
            go_wp2_with (fail)
            go_roundw
            case rel => exact ⟨q + 1, l7, P7, c7, by omega, by go_num, hb8, hs8, hof7, HAB7.out, hu8, by omega⟩
            case measure => simp [intOf]; omega
          · go_simp
            refine hK _ _ (fun h => by simp at h) ?_
            clear hK K'
            refine wpAnyF_one (i := 14) (fuel := 0) rfl (by kernel_rfl) rfl fun K' hK => ?_
            go_simp
            refine hK _ _ (fun h => by simp at h) ?_
            clear hK K'
            refine wpAnyF_done (by kernel_rfl) ?_ 0
            refine NoPanic.normal ?_
            clear s0 s1 s2 s3 s4 q0 q1 q2 hab7
            go_wp2_with (fail)
            go_roundw
            case rel => exact ⟨q + 1, l7, P7, c7, by omega, by go_num, hb8, hs8, hof7, HAB7.out, hu8, by omega⟩
            case measure => simp [intOf]; omega
        · obtain rfl : q = m.length := by omega
          go_wp2_with (fail)
          go_roundw
          case rel => exact ⟨i + 1, rq, Pq, cq, by omega, by go_num, hbq, hsq, hoq, by rw [habq, HLSi.out, hlen5], hu.ext hx05 (fun i hi => by subst hi; exact h0s), by rw [HLSi.out, hlen5]; exact hle2⟩
          case measure => simp [intOf]; omega
    · obtain rfl : i = h := by omega
      have n0 := hbx.cell (i := 0) rfl
      have n1 := hbx.cell (i := 1) rfl
      have n2 := hbx.cell (i := 2) rfl
      have hB9 := hBx.ext hx
      have b0 := hB9.cell (i := 0) rfl
      have b1 := hB9.cell (i := 1) rfl
      have b2 := hB9.cell (i := 2) rfl
      have q0 := hB9.frozen 0
      have q1 := hB9.frozen 1
      have q2 := hB9.frozen 2
      have hB8 := ((hB9.set 0 (.int .i64 h2)).set 1 (.int .i64 r)).set 2 (.slice Pn rn.length cn)
      have huZ := (((UpdF.refl (fun i => i = w.heap.size + 1) wr).setCell (p := ⟨w.heap.size + 1, 0, none⟩) (.inl rfl) (.int .i64 h2)).setCell (p := ⟨w.heap.size + 1, 1, none⟩) (.inl rfl) (.int .i64 r)).setCell (p := ⟨w.heap.size + 1, 2, none⟩) (.inl rfl) (.slice Pn rn.length cn)
      have hsZ := hsn.upd huZ (hon.mono (fun i hi => .inr (.inl hi)))
      have xZ := huZ.ext (hx2.trans hx) (fun i hi => by subst hi; exact Nat.le_succ _)
      have z3 := hB8.cell (i := 0) rfl
      have z4 := hB8.cell (i := 1) rfl
      have z5 := hB8.cell (i := 2) rfl
      have HAB := Lib.hid (show absT rn = regF hdH h2 r (allE i T0) from by rw [hab, HLE.out, List.take_length])
      clear hab HEN
      go_wp2_with (fail)
      refine bodyPost_ret (v := .tuple #[.agg #[.int .i64 h2, .int .i64 r, .slice Pn rn.length cn], .int .i64 0]) (by simp [results, Tryz.results39, go_sem, z3, z4, z5]) rfl ⟨Pn, cn, rn, rfl, HAB.out, hsZ, hon.mono (fun i hi => .inl hi), xZ⟩
end
section
open Go.RowKit Go.Maps
set_option linter.unusedVariables false
set_option linter.unusedSimpArgs false
set_option linter.unusedSectionVars false
set_option maxRecDepth 100000
attribute [local go_sem] Oper.semAt_some

abbrev PlC (t h r : Nat) (P : Option Addr) (n c : Nat) : Array Value := #[.pointer (some ⟨t, 0, none⟩), .int .i64 h, .int .i64 r, .slice P n c, .bool true, .bool true]
abbrev PlZ : Array Value := #[.pointer none, .int .i64 0, .int .i64 0, .slice none 0 0, .bool false, .bool false]
theorem SlV.off_pl {w : World} {P : Option Addr} {c : Nat} {l : List Vl} (h : SlV w P c l) {t : Nat} {T : TypeId} {p : Option Addr} {a b : Int} {Q : Option Addr} {n d : Nat} {x y : Bool} (hb : BoxN w t T #[.pointer p, .int .i64 a, .int .i64 b, .slice Q n d, .bool x, .bool y]) : Off (fun i => i = t) P l := by
  intro hne g off e hg
  subst hg
  cases l with
  | nil => exact hne rfl
  | cons x l =>
    obtain ⟨g', o, e2, h1⟩ := h.at_ 0 x rfl
    rw [e] at e2
    injection e2 with e2
    injection e2 with e3 e4
    subst e3
    have h2 := h1 2 (.string x.2.2) rfl
    have hob : w.heap[g]? = _ := hb
    rcases o with _ | _ | _ | _ | o <;> simp [World.cell?, hob] at h2
/-- play's state: the program's table (footprint F) and the reference's, the box X of both, the box R of the result -/
structure Pl (w0 W : World) (X R : Nat) (F : Nat → Prop) (t hp h r : Nat) (P : Option Addr) (c : Nat) (raw : List BkR) (Pr : Option Addr) (cr : Nat) (rr : List BkR) : Prop where
  ct : CtO W F t hp r P c raw
  sl : SlB W Pr cr rr
  off : OffB (fun i => F i ∨ i = X ∨ i = R) Pr rr
  new : ∀ k, F k → w0.heap.size ≤ k ∧ k ≠ X ∧ k ≠ R
  bx : BoxN W X 30 (PlC t h r Pr rr.length cr)
  bR : BoxN W R 30 PlZ
  ext : Ext w0 W
  hX : w0.heap.size ≤ X
  hR : w0.heap.size ≤ R
  hXR : X ≠ R
section
variable {w0 W W' : World} {X R : Nat} {F : Nat → Prop} {t hp h r : Nat} {P : Option Addr} {c : Nat} {raw : List BkR} {Pr : Option Addr} {cr : Nat} {rr : List BkR}
theorem Pl.to (H : Pl w0 W X R F t hp h r P c raw Pr cr rr) (hx : Ext W W') : Pl w0 W' X R F t hp h r P c raw Pr cr rr :=
  ⟨H.ct.ext hx, H.sl.ext hx, H.off, H.new, H.bx.ext hx, H.bR.ext hx, H.ext.trans hx, H.hX, H.hR, H.hXR⟩
theorem Pl.ltX (H : Pl w0 W X R F t hp h r P c raw Pr cr rr) : X < W.heap.size := H.bx.lt
theorem Pl.ltR (H : Pl w0 W X R F t hp h r P c raw Pr cr rr) : R < W.heap.size := H.bR.lt
/-- the program's table has changed -/
theorem Pl.prog (H : Pl w0 W X R F t hp h r P c raw Pr cr rr) {hp' : Nat} {raw' : List BkR} (k : CtG W F t hp' r raw' W') : ∃ P' c' F', Pl w0 W' X R F' t hp' h r P' c' raw' Pr cr rr := by
  obtain ⟨P', c', F', C, g, u⟩ := k
  have h1 := H.ltX
  have h2 := H.ltR
  have h3 := H.ext.size
  exact ⟨P', c', F', C, H.sl.upd u (H.off.mono (fun i hi => .inl hi)), H.sl.off_new H.off (fun i hi => by
    rcases hi with hi | hi | hi
    · rcases g i hi with hi | hi
      · exact .inl (.inl hi)
      · exact .inr hi
    · exact .inl (.inr (.inl hi))
    · exact .inl (.inr (.inr hi))), fun k hk => by
    rcases g k hk with hk | hk
    · exact H.new k hk
    · exact ⟨by omega, by omega, by omega⟩, H.bx.upd u (fun e => (H.new _ e).2.1 rfl), H.bR.upd u (fun e => (H.new _ e).2.2 rfl), u.ext H.ext (fun i hi => (H.new i hi).1), H.hX, H.hR, H.hXR⟩
/-- the reference's answer is stored -/
theorem Pl.ref (H : Pl w0 W X R F t hp h r P c raw Pr cr rr) {h' : Nat} {P' : Option Addr} {c' : Nat} {l' : List BkR} (s : SlB W P' c' l') (o : OffB (fun i => F i ∨ i = X ∨ i = R) P' l') :
    Pl w0 (((W.setCell ⟨X, 1, none⟩ (.int .i64 h')).setCell ⟨X, 2, none⟩ (.int .i64 r)).setCell ⟨X, 3, none⟩ (.slice P' l'.length c')) X R F t hp h' r P c raw P' c' l' := by
  have u := (((UpdF.refl (fun i => i = X) W).setCell (p := ⟨X, 1, none⟩) (.inl rfl) (.int .i64 h')).setCell (p := ⟨X, 2, none⟩) (.inl rfl) (.int .i64 r)).setCell (p := ⟨X, 3, none⟩) (.inl rfl) (.slice P' l'.length c')
  exact ⟨H.ct.upd u (fun k hk => (H.new k hk).2.1) (fun x hx y hy => SlV.off_pl (H.ct.rows x hx y hy).1 H.bx), s.upd u (o.mono (fun i hi => .inr (.inl hi))), o, H.new, ((H.bx.set 1 (.int .i64 h')).set 2 (.int .i64 r)).set 3 (.slice P' l'.length c'), H.bR.upd u (fun e => H.hXR e.symm), u.ext H.ext (fun i hi => hi ▸ H.hX), H.hX, H.hR, H.hXR⟩
/-- whether they were the same is stored -/
theorem Pl.same (H : Pl w0 W X R F t hp h r P c raw Pr cr rr) : Pl w0 (W.setCell ⟨X, 4, none⟩ (.bool true)) X R F t hp h r P c raw Pr cr rr := by
  have u := (UpdF.refl (fun i => i = X) W).setCell (p := ⟨X, 4, none⟩) (.inl rfl) (.bool true)
  exact ⟨H.ct.upd u (fun k hk => (H.new k hk).2.1) (fun x hx y hy => SlV.off_pl (H.ct.rows x hx y hy).1 H.bx), H.sl.upd u (H.off.mono (fun i hi => .inr (.inl hi))), H.off, H.new, H.bx.set 4 (.bool true), H.bR.upd u (fun e => H.hXR e.symm), u.ext H.ext (fun i hi => hi ▸ H.hX), H.hX, H.hR, H.hXR⟩
/-- a copy was made and stored; the old table is still there -/
theorem Pl.copy (H : Pl w0 W X R F t h h r P c raw Pr cr rr) {tn : Nat} {F' : Nat → Prop} {P' : Option Addr} {c' : Nat} {l' : List BkR} (C : CtO W' F' tn h r P' c' l') (hF : ∀ k, F' k → W.heap.size ≤ k) (hx : Ext W W') (hn : NewRows W.heap.size l') :
    CtO (W'.setCell ⟨X, 0, none⟩ (.pointer (some ⟨tn, 0, none⟩))) F t h r P c raw ∧ Ext w0 (W'.setCell ⟨X, 0, none⟩ (.pointer (some ⟨tn, 0, none⟩))) ∧
    ∀ W2, UpdF F (W'.setCell ⟨X, 0, none⟩ (.pointer (some ⟨tn, 0, none⟩))) W2 → Pl w0 W2 X R F' tn h h r P' c' l' Pr cr rr := by
  have H' := H.to hx
  have h1 := H.ltX
  have h2 := H.ltR
  have h3 := H.ext.size
  have u := (UpdF.refl (fun i => i = X) W').setCell (p := ⟨X, 0, none⟩) (.inl rfl) (.pointer (some ⟨tn, 0, none⟩))
  have xu := u.ext H'.ext (fun i hi => hi ▸ H.hX)
  refine ⟨H'.ct.upd u (fun k hk => (H.new k hk).2.1) (fun x hx y hy => SlV.off_pl (H'.ct.rows x hx y hy).1 H'.bx), xu, fun W2 u2 => ?_⟩
  have C1 := C.upd u (fun k hk => by have := hF k hk; omega) (fun x hx y hy => SlV.off_pl (C.rows x hx y hy).1 H'.bx)
  refine ⟨C1.upd u2 (fun k hk e => by have := hF k hk; have := H.ct.Flt k e; omega) (fun x hx y hy => (hn x hx y hy).mono (fun i hi => H.ct.Flt i hi)), (H'.sl.upd u (H.off.mono (fun i hi => .inr (.inl hi)))).upd u2 (H.off.mono (fun i hi => .inl hi)), H.sl.off_new H.off (fun i hi => ?_), fun k hk => ?_, (H'.bx.set 0 (.pointer (some ⟨tn, 0, none⟩))).upd u2 (fun e => (H.new _ e).2.1 rfl), (H'.bR.upd u (fun e => H.hXR e.symm)).upd u2 (fun e => (H.new _ e).2.2 rfl), u2.ext xu (fun i hi => (H.new i hi).1), H.hX, H.hR, H.hXR⟩
  · rcases hi with hi | hi | hi
    · exact .inr (hF i hi)
    · exact .inl (.inr (.inl hi))
    · exact .inl (.inr (.inr hi))
  · have := hF k hk
    exact ⟨by omega, by omega, by omega⟩
/-- the result is stored -/
theorem Pl.done (H : Pl w0 W X R F t hp h r P c raw Pr cr rr) :
    let Z := (((((W.setCell ⟨R, 0, none⟩ (.pointer (some ⟨t, 0, none⟩))).setCell ⟨R, 1, none⟩ (.int .i64 h)).setCell ⟨R, 2, none⟩ (.int .i64 r)).setCell ⟨R, 3, none⟩ (.slice Pr rr.length cr)).setCell ⟨R, 4, none⟩ (.bool true)).setCell ⟨R, 5, none⟩ (.bool true)
    CtO Z F t hp r P c raw ∧ SlB Z Pr cr rr ∧ Ext w0 Z ∧ BoxN Z R 30 (PlC t h r Pr rr.length cr) := by
  have u := ((((((UpdF.refl (fun i => i = R) W).setCell (p := ⟨R, 0, none⟩) (.inl rfl) (.pointer (some ⟨t, 0, none⟩))).setCell (p := ⟨R, 1, none⟩) (.inl rfl) (.int .i64 h)).setCell (p := ⟨R, 2, none⟩) (.inl rfl) (.int .i64 r)).setCell (p := ⟨R, 3, none⟩) (.inl rfl) (.slice Pr rr.length cr)).setCell (p := ⟨R, 4, none⟩) (.inl rfl) (.bool true)).setCell (p := ⟨R, 5, none⟩) (.inl rfl) (.bool true)
  exact ⟨H.ct.upd u (fun k hk => (H.new k hk).2.2) (fun x hx y hy => SlV.off_pl (H.ct.rows x hx y hy).1 H.bR), H.sl.upd u (H.off.mono (fun i hi => .inr (.inr hi))), u.ext H.ext (fun i hi => hi ▸ H.hR), (((((H.bR.set 0 (.pointer (some ⟨t, 0, none⟩))).set 1 (.int .i64 h)).set 2 (.int .i64 r)).set 3 (.slice Pr rr.length cr)).set 4 (.bool true)).set 5 (.bool true)⟩
end
theorem regT_full {h h2 r : Nat} {T : List (Bkt Hd)} (F : FullT hdV hdH h r T) (h1 : 1 ≤ h2) (h3 : h2 ≤ 100) : FullT hdV hdH h2 r (regT h h2 r T) := by
  obtain ⟨_, _, r1, r2⟩ := F.hh
  have := (regF_full hdV hdH h1 h3 r1 r2 F.all_nodup F.all_len F.all_valid (allE h T).length (Nat.le_refl _)).1
  rwa [List.take_length] at this
theorem regT_len {h h2 r : Nat} {T : List (Bkt Hd)} (F : FullT hdV hdH h r T) (h1 : 1 ≤ h2) (h3 : h2 ≤ 100) : (regT h h2 r T).length ≤ 600 := by
  obtain ⟨_, _, r1, r2⟩ := F.hh
  have := regF_len h2 r h1 h3 r1 r2 F.all_nodup F.all_len F.all_valid (allE h T).length (Nat.le_refl _)
  rw [List.take_length] at this
  have := F.all_len
  unfold regT
  omega
/-- how play ends where the numbers are right -/
def PlayP (r : Nat) (w : World) (e : Ending) (w' : World) : Prop := ∃ (t h : Nat) (F : Nat → Prop) (P : Option Addr) (c : Nat) (raw : List BkR) (Pr : Option Addr) (cr : Nat) (rr : List BkR),
  e = .returned (.agg (PlC t h r Pr rr.length cr)) ∧ CtO w' F t h r P c raw ∧ FullT hdV hdH h r (absT raw) ∧ raw.length ≤ 700 ∧ SlB w' Pr cr rr ∧ absT rr = absT raw ∧ OffB F Pr rr ∧ (∀ k, F k → w.heap.size ≤ k) ∧ Ext w w'
end
end Go.Proofs.YtcbinafokhekmaaGreatDoor

/- PcK; PcL; PcQ; PcD; PcE; PcR; RowBase (merged by group.py) -/
import Derived.Test.YtcbainmpikcfjaaQ15
import Derived.Test.YtcbainmpikcfjaaQ11
import Derived.Deep.RegionHeld3
import Derived.Test.YtcbainmpikcfjaaProg
import Derived.Test.YtcbainmpikcfjaaRows
import Derived.Below
import Derived.Deep.SlicePairs
import Derived.ChangeSame
import Derived.SizedLaws
import Derived.OpenShut
namespace Go.Proofs.Ytcbainmpikcfjaa
section
open Go.RowKit Go.Maps
set_option linter.unusedVariables false
set_option linter.unusedSimpArgs false
set_option linter.unusedSectionVars false
set_option maxRecDepth 20000
attribute [local go_sem] Oper.semAt_some

set_option maxHeartbeats 2000000 in
theorem new8_yes (size pages most : Nat) (w : World) (hz : sizeB (size : Int) = true) (h1 : 1 ≤ pages) (h2 : pages ≤ 200) (hm1 : 1 ≤ most) (hm2 : most ≤ 1000) :
    Calls Try.prog 7 #[.int .i64 size, .int .i64 pages, .int .i64 most] w fun e w' => ∃ h A g M lv cap, e = .returned (.tuple #[.pointer (some ⟨h, 0, none⟩), .int .i64 0]) ∧ Hp w' h A g M size most cap (List.replicate pages (newP size)) lv [] ∧ (w.heap.size ≤ h ∧ w.heap.size ≤ A ∧ w.heap.size ≤ g ∧ w.heap.size ≤ M) ∧ Ext w w' := by
  have hN := newArea_yes size pages w hz h1 h2
  have hmm := @run_makeMap Try.prog
  have c1 : ¬ (most : Int) < 1 := by omega
  have c2 : ¬ 1000 < (most : Int) := by omega
  generalize List.replicate pages (newP size) = L at *
  go_enter Try.func7, Try.ntmps7
  go_wp2_with fail
  refine hN.mono ?_
  rintro e w1 ⟨A, g, lv, cap, rfl, hS, hA, hg, hx1⟩
  have hz1 := hx1.size
  have hAl := hS.ar.lt
  have hgl := hS.gl
  go_wp2
  go_ret2
  have hM0 : MapI (w1.alloc (.map #[] 0)) w1.heap.size [] := MapI.made w1
  have hb := BoxN.new (w1.alloc (.map #[] 0)) 51 #[.pointer (some ⟨A, 0, none⟩), .int .i64 most, .map (some w1.heap.size)]
  rw [World.size_alloc] at hb
  have hx2 := ((Ext.refl w1).alloc (.map #[] 0)).alloc (.cells #[.pointer (some ⟨A, 0, none⟩), .int .i64 most, .map (some w1.heap.size)] 51)
  refine ⟨w1.heap.size + 1, A, g, w1.heap.size, lv, cap, by first | rfl | simp, ⟨hb, hS.ext hx2, hM0.ext ((Ext.refl _).alloc _), by omega, by omega, by omega, by omega, by omega, hm1, hm2⟩, ⟨by omega, hA, hg, hz1⟩, hx1.trans hx2⟩
theorem put8_ok {w : World} {h A g M size most cap : Nat} {l : List ByteArray} {lv : List UInt8} {mp : List (Int × Adr)} (H : Hp w h A g M size most cap l lv mp) (near k : Int) (s : ByteArray) (hk : 1 ≤ k ∧ k ≤ 1000000) (hnr : 0 ≤ near ∧ near < l.length) (hs : s.size ≤ 4000) (hml : mp.length < 1000000) (hno : hasI mp k = false) (pl : List ByteArray) (hpl : partsL most s = pl)
    (st : Nat → List ByteArray × Adr) (hst0 : st pl.length = (l, (0, 0))) (hst : ∀ i, i < pl.length → APut size near (st (i + 1)).1 (frB k s.size i (st (i + 1)).2 (pl.getD i ⟨#[]⟩)) (st i).1 (st i).2) :
    Calls Try.prog 8 #[.pointer (some ⟨h, 0, none⟩), .int .i64 near, .int .i64 k, .string s] w fun e w' => e = .returned (.int .i64 0) ∧ (∃ lv', Hp w' h A g M size most cap (st 0).1 lv' (putI mp k (st 0).2)) ∧ UpdF (fun x => x = A ∨ x = g ∨ x = M) w w' := by
  have hK := fun W => key_is k W
  rw [decide_eq_true hk] at hK
  have hP := pagesN8 H
  have hok : OkI k := ⟨by omega, by omega⟩
  have hlk := H.map.look_ok (t := 47) Try.underlying47 hok
  rw [hno] at hlk
  simp only [adV] at hlk
  have c0 := H.box.cell (i := 2) rfl
  generalize (atI mp k).1 = ax at *
  generalize (atI mp k).2 = ay at *
  have hW := fun (W : World) (hx : Ext w W) => write_ok (H.ext hx) near k s hk hs hml pl hpl st hst0 hst
  have c1 : ¬ 4000 < (s.size : Int) := by omega
  have c2 : ¬ near < 0 := by omega
  have c3 : ¬ (l.length : Int) ≤ near := by omega
  have HX := Lib.hid hnr
  clear hst hst0 hpl hok hnr hk
  go_enter Try.func8, Try.ntmps8
  go_wp2_with (first
    | (go_at_call 11; refine (hK _).mono ?_; rintro e w1 ⟨rfl, rfl⟩)
    | (go_at_call 18; refine hP.mono ?_; rintro e w2 ⟨rfl, rfl⟩)
    | (go_at_call 19; refine (hW _ ((Ext.refl w).alloc _)).mono ?_; rintro e w3 ⟨rfl, hH3, hu3⟩))
  go_ret
  exact ⟨rfl, hH3, (UpdF.of_ext ((Ext.refl w).alloc _) _).trans hu3⟩
end
section
open Go.RowKit
set_option linter.unusedVariables false
set_option linter.unusedSimpArgs false
set_option linter.unusedSectionVars false
set_option maxRecDepth 20000

/-- a page whose lines are 1, 2, .. with these data -/
structure Pk (p : ByteArray) (size : Nat) (L : List ByteArray) : Prop where
  val : ValidR p
  sz : p.size = size
  n : cnt p = L.length
  at_ : ∀ i, i < L.length → cel p i = (((i + 1 : Nat) : Int), L.getD i ⟨#[]⟩)
def sumZ : List ByteArray → Nat
  | [] => 0
  | s :: l => s.size + sumZ l
theorem sumZ_app (l : List ByteArray) (s : ByteArray) : sumZ (l ++ [s]) = sumZ l + s.size := by
  induction l with
  | nil => simp [sumZ]
  | cons x l ih => simp only [List.cons_append, sumZ, ih]; omega
theorem bytesF_take (L : List ByteArray) (f : Nat → Cel) (h : ∀ i, i < L.length → (f i).2 = L.getD i ⟨#[]⟩) : ∀ n, n ≤ L.length → bytesF f n = sumZ (L.take n)
  | 0, _ => by simp [bytesF, sumZ]
  | n + 1, hn => by
    rw [List.take_add_one, List.getElem?_eq_getElem (show n < L.length from hn)]
    show bytesF f n + (f n).2.size = sumZ (L.take n ++ [L[n]])
    rw [bytesF_take L f h n (by omega), sumZ_app, h n hn, List.getD_eq_getElem?_getD, List.getElem?_eq_getElem (show n < L.length from hn)]
    rfl
theorem bytesF_sum (L : List ByteArray) (f : Nat → Cel) (h : ∀ i, i < L.length → (f i).2 = L.getD i ⟨#[]⟩) : bytesF f L.length = sumZ L := by
  have := bytesF_take L f h L.length (Nat.le_refl _)
  rwa [List.take_length] at this
theorem nextF_line {f : Nat → Cel} {n : Nat} (h : ∀ i, i < n → (f i).1 = ((i + 1 : Nat) : Int)) : nextF f n = n + 1 := by
  induction n with
  | zero => rfl
  | succ n ih =>
    have := ih (fun i hi => h i (by omega))
    unfold nextF
    rw [this, h n (by omega), if_pos rfl]
theorem Pk.facts {p : ByteArray} {size : Nat} {L : List ByteArray} (h : Pk p size L) : nextF (cel p) (cnt p) = L.length + 1 ∧ lastF (cel p) (cnt p) = L.length ∧ bytesF (cel p) (cnt p) = sumZ L := by
  refine ⟨?_, ?_, ?_⟩
  · rw [nextF_line (fun i hi => by rw [h.at_ i (by rw [← h.n]; exact hi)]), h.n]
  · unfold lastF
    rw [h.n]
    split
    · next e => rw [e]; rfl
    · rw [h.at_ _ (by omega)]
      simp only
      omega
  · rw [h.n]
    exact bytesF_sum L _ (fun i hi => by rw [h.at_ i hi])
/-- one more line -/
theorem Pk.put {p : ByteArray} {size : Nat} {L : List ByteArray} (h : Pk p size L) (s : ByteArray) (hs : 0 < s.size) (hl : L.length < 200) (hr : 2 + 4 * (L.length + 1) + sumZ L + s.size ≤ size) :
    holdsB p s.size = true ∧ ∃ q, Pk q size (L ++ [s]) ∧ ∀ w, Calls Try.prog 41 #[.string p, .string s] w fun e w' => e = put3 (q, ((L.length + 1 : Nat) : Int), 0) ∧ Ext w w' := by
  have hv := h.val
  have hG := cel_good hv
  obtain ⟨z1, z2⟩ := sizes_of hv
  obtain ⟨e1, e2, e3⟩ := h.facts
  have hsz := h.sz
  have hn := h.n
  have hsn : s.toList ≠ [] := by rw [ne_eq, toList_nil]; omega
  have hp : PosI (cnt p) (cel p) (nextF (cel p) (cnt p)) L.length := by
    refine ⟨by omega, fun i hi => ?_, fun i h1 h2 => by omega⟩
    rw [h.at_ i hi, e1]
    simp only
    omega
  have hh : holdsB p s.size = true := by
    unfold holdsB topLine
    rw [e1, e2, e3, hsz]
    simp only [Bool.and_eq_true, decide_eq_true_eq]
    refine ⟨by omega, ?_⟩
    rw [if_neg (by omega)]
    omega
  have hroom := roomF_ins hp (by omega) s p.size
  have hrm : ¬ roomF p.size (insF (cel p) L.length (nextF (cel p) (cnt p), s)) (cnt p + 1) < 0 := by
    rw [hroom, e1, e2, e3, hsz, if_neg (by omega)]
    omega
  have e : putRes p.size (cnt p) (cel p) L.length s = ((filledRes p.size (cnt p + 1) (insF (cel p) L.length (nextF (cel p) (cnt p), s))).1, ((nextF (cel p) (cnt p) : Nat) : Int), 0) := by
    unfold putRes filledRes
    rw [if_pos (by omega), if_neg hrm]
    simp only [hrm, if_false]
  obtain ⟨g1, g2, g3, g4⟩ := filled_valid p.size (cnt p + 1) _ (ins_good hG hp ⟨by omega, by omega⟩ (next_miss hG) s hs) hv.1.1 (by unfold filledRes; rw [if_neg hrm])
  refine ⟨hh, _, ⟨g2, by rw [g1]; exact hsz, by rw [g3, hn]; simp, fun i hi => ?_⟩, fun w => ?_⟩
  · rw [List.length_append, List.length_singleton] at hi
    rw [g4 i (by omega)]
    unfold insF
    by_cases h1 : i < L.length
    · rw [if_pos h1, h.at_ i h1, List.getD_eq_getElem?_getD, List.getD_eq_getElem?_getD, List.getElem?_append_left h1]
    · obtain rfl : i = L.length := by omega
      rw [if_neg (by omega), if_pos rfl, e1]
      simp [List.getD_eq_getElem?_getD]
  · have := put_ok p s w hv hsn (by omega) L.length hp
    rw [e, e1] at this
    rw [e1]
    exact this
/-- a line is read -/
theorem Pk.get {p : ByteArray} {size : Nat} {L : List ByteArray} (h : Pk p size L) (i : Nat) (hi : i < L.length) (hl : L.length ≤ 200) (w : World) : Calls Try.prog 43 #[.string p, .int .i64 ((i + 1 : Nat) : Int)] w fun e w' => e = two2 (L.getD i ⟨#[]⟩, 0) ∧ Ext w w' :=
  get_rel p _ _ w h.val ⟨by omega, by omega⟩ (.inl ⟨i, by rw [h.n]; exact hi, by rw [h.at_ i hi], by rw [h.at_ i hi]⟩)
theorem Pk.new (size : Nat) (hz : sizeB (size : Int) = true) : Pk (newP size) size [] := by
  obtain ⟨h1, h2, h3, _⟩ := newP_ok size hz
  exact ⟨h1, h2, h3, fun i hi => by simp at hi⟩
/-- Put into the first page of two -/
theorem aput_first {p r : ByteArray} {size : Nat} {L : List ByteArray} (h : Pk p size L) (s : ByteArray) (hs : 0 < s.size) (hl : L.length < 200) (hr : 2 + 4 * (L.length + 1) + sumZ L + s.size ≤ size) :
    ∃ q, Pk q size (L ++ [s]) ∧ APut size 0 [p, r] s [q, r] (0, ((L.length + 1 : Nat) : Int)) := by
  obtain ⟨hh, q, hq, hP⟩ := h.put s hs hl hr
  refine ⟨q, hq, fun A g cap lv W hS => ?_, by simp; omega⟩
  have hsn : s.toList ≠ [] := by rw [ne_eq, toList_nil]; omega
  have hF : FindR [p, r] 0 s.size (0, 0) := .inl ⟨0, by simp, by simpa [nthB] using hh, fun j hj => by omega, by simp⟩
  have hsz := hS.sizes
  have := sput_yes A g size cap [p, r] lv 0 s W hS hsn 0 (by simp) (fun W' hW => find_main A g size cap _ lv 0 s.size W' hW (by simp) (by omega) (by omega) _ hF) q ((L.length + 1 : Nat) : Int) hq.val hq.sz (fun W' => hP W')
  exact this
/-- Get of the first page of two -/
theorem get_first {p r : ByteArray} {size : Nat} {L : List ByteArray} (h : Pk p size L) (hl : L.length ≤ 200) (i : Nat) (hi : i < L.length) : GetA size [p, r] (0, ((i + 1 : Nat) : Int)) (L.getD i ⟨#[]⟩, 0) := by
  intro A g cap lv W hS
  exact sget_in A g size cap _ lv 0 ((i + 1 : Nat) : Int) W hS 0 (by simp) rfl (L.getD i ⟨#[]⟩, 0) (fun W' => h.get i hi hl W')
end
section
open Go.RowKit Go.Maps
set_option linter.unusedVariables false
set_option linter.unusedSimpArgs false
set_option linter.unusedSectionVars false
set_option maxRecDepth 20000
attribute [local go_sem] Oper.semAt_some

def awD : ByteArray := ⟨#[97, 98, 99, 100, 101]⟩
def awP : List ByteArray := [⟨#[97, 98]⟩, ⟨#[99, 100]⟩, ⟨#[101]⟩]
theorem awP_is : partsL 2 awD = awP := by decide +kernel
def awA (i : Nat) : Adr := match i with
  | 0 => (0, 3)
  | 1 => (0, 2)
  | 2 => (0, 1)
  | _ => (0, 0)
/-- what awake's Put finds and leaves -/
theorem aw_steps : ∃ (l3 : List ByteArray) (st : Nat → List ByteArray × Adr), st awP.length = (List.replicate 2 (newP 64), (0, 0)) ∧
    (∀ i, i < awP.length → APut 64 0 (st (i + 1)).1 (frB 7 awD.size i (st (i + 1)).2 (awP.getD i ⟨#[]⟩)) (st i).1 (st i).2) ∧ st 0 = (l3, (0, 3)) ∧ RecAt 64 l3 7 awD.size awP awA := by
  have hz : sizeB ((64 : Nat) : Int) = true := by decide
  have h0 := Pk.new 64 hz
  obtain ⟨q1, k1, a1⟩ := aput_first (r := newP 64) h0 (frB 7 awD.size 2 (0, 0) ⟨#[101]⟩) (by rw [frB_size]; omega) (by simp) (by rw [frB_size]; decide)
  obtain ⟨q2, k2, a2⟩ := aput_first (r := newP 64) k1 (frB 7 awD.size 1 (0, 1) ⟨#[99, 100]⟩) (by rw [frB_size]; omega) (by simp) (by simp only [List.nil_append, sumZ, frB_size]; decide)
  obtain ⟨q3, k3, a3⟩ := aput_first (r := newP 64) k2 (frB 7 awD.size 0 (0, 2) ⟨#[97, 98]⟩) (by rw [frB_size]; omega) (by simp) (by simp only [List.nil_append, List.cons_append, sumZ, frB_size]; decide)
  refine ⟨[q3, newP 64], fun i => match i with
    | 0 => ([q3, newP 64], (0, 3))
    | 1 => ([q2, newP 64], (0, 2))
    | 2 => ([q1, newP 64], (0, 1))
    | _ => (List.replicate 2 (newP 64), (0, 0)), rfl, fun i hi => ?_, rfl, ?_⟩
  · match i, hi with
    | 0, _ => exact a3
    | 1, _ => exact a2
    | 2, _ => exact a1
    | j + 3, hi => exact absurd hi (by simp [awP])
  · have g := fun (i : Nat) (hi : i < 3) => get_first (r := newP 64) k3 (by simp) i hi
    refine ⟨rfl, fun i hi => ?_, fun i hi => ?_, by omega, by decide, by decide, fun i hi => ?_⟩
    · match i, hi with
      | 0, _ => decide
      | 1, _ => decide
      | 2, _ => decide
      | j + 3, hi => exact absurd hi (by simp [awP])
    · match i, hi with
      | 0, _ => exact g 2 (by omega)
      | 1, _ => exact g 1 (by omega)
      | 2, _ => exact g 0 (by omega)
      | j + 3, hi => exact absurd hi (by simp [awP])
    · match i, hi with
      | 0, _ => decide
      | 1, _ => decide
      | 2, _ => decide
      | j + 3, hi => exact absurd hi (by simp [awP])
set_option maxHeartbeats 2000000 in
theorem awake8_any (w : World) : Calls Try.prog 4 #[] w fun e w' => e = .returned (.bool true) ∧ Ext w w' := by
  obtain ⟨l3, st, s3, sS, s0, hr⟩ := aw_steps
  have hN := new8_yes 64 2 2 w (by decide) (by omega) (by omega) (by omega) (by omega)
  have hPut : ∀ h A g M lv cap W, Hp W h A g M 64 2 cap (List.replicate 2 (newP 64)) lv [] → Calls Try.prog 8 #[.pointer (some ⟨h, 0, none⟩), .int .i64 0, .int .i64 7, .string ⟨#[97, 98, 99, 100, 101]⟩] W fun e w' => e = .returned (.int .i64 0) ∧ (∃ lv', Hp w' h A g M 64 2 cap l3 lv' [(7, (0, 3))]) ∧ UpdF (fun x => x = A ∨ x = g ∨ x = M) W w' := fun h A g M lv cap W H => by
    have := put8_ok H 0 7 awD (by omega) (by simp) (by decide) (by simp) rfl awP awP_is st s3 sS
    rw [s0] at this
    exact this
  have hGet : ∀ h A g M lv cap W, Hp W h A g M 64 2 cap l3 lv [(7, (0, 3))] → Calls Try.prog 9 #[.pointer (some ⟨h, 0, none⟩), .int .i64 7] W fun e w' => e = .returned (.tuple #[.string ⟨#[97, 98, 99, 100, 101]⟩, .int .i64 0]) ∧ Ext W w' := fun h A g M lv cap W H => by
    have := get8_yes H hr rfl rfl
    rw [show catB awP awP.length = awD from by rw [← awP_is]; exact catB_parts 2 awD] at this
    exact this
  have hFr : ∀ h A g M lv cap W, Hp W h A g M 64 2 cap l3 lv [(7, (0, 3))] → Calls Try.prog 10 #[.pointer (some ⟨h, 0, none⟩), .int .i64 7] W fun e w' => (∃ b cap, e = .returned (.tuple #[.slice (some ⟨b, 0, none⟩) 3 cap, .int .i64 0]) ∧ w'.cell? ⟨b, 5, none⟩ = some (.int .i64 1)) ∧ Ext W w' := fun h A g M lv cap W H => by
    refine (fragments8_yes H hr rfl rfl).mono ?_
    rintro e w' ⟨⟨v, rfl, ho⟩, hx⟩
    have hl : adsL awA awP.length = [(0, 3), (0, 2), (0, 1)] := rfl
    rw [hl] at ho
    obtain ⟨b, cap, rfl, _⟩ := ho.tight (by simp)
    obtain ⟨P, c, e1, hS⟩ := ho.slG elemAd (by simp)
    simp only [Value.slice.injEq] at e1
    obtain ⟨rfl, _, rfl⟩ := e1
    obtain ⟨b', o', e2, hc⟩ := hS.at_ 2 (0, 1) rfl
    simp only [Option.some.injEq, Addr.mk.injEq, and_true] at e2
    obtain ⟨rfl, rfl⟩ := e2
    have := hc 1 _ rfl
    exact ⟨⟨_, _, rfl, by simpa using this⟩, hx⟩
  clear hr sS s3 s0
  generalize List.replicate 2 (newP 64) = l0 at *
  go_enter Try.func4, Try.ntmps4
  go_wp2_with fail
  refine hN.mono ?_
  rintro e w1 ⟨h, A, g, M, lv, cap, rfl, H1, ⟨b1, b2, b3, b4⟩, hx1⟩
  go_wp2_with (first
    | (go_at_call 8; refine (hPut _ _ _ _ _ _ _ H1).mono ?_; rintro e w2 ⟨rfl, ⟨lv2, H2⟩, hu2⟩)
    | (go_at_call 9; refine (hGet _ _ _ _ _ _ _ H2).mono ?_; rintro e w3 ⟨rfl, hx3⟩)
    | (go_at_call 10; refine (hFr _ _ _ _ _ _ _ (H2.ext hx3)).mono ?_; rintro e w4 ⟨⟨b, c, rfl, hc⟩, hx4⟩))
  go_ret
  exact ⟨rfl, ((hu2.ext hx1 (fun i hi => by rcases hi with e | e | e <;> omega)).trans hx3).trans hx4⟩
end
section
open Go.RowKit
set_option linter.unusedVariables false
set_option linter.unusedSimpArgs false
set_option linter.unusedSectionVars false
set_option maxRecDepth 20000

set_option maxHeartbeats 1000000 in
theorem rhead_any (kd : UInt8) (kz k n p q : Int) (w : World) (hkd : kz = kd.toNat) (hk : 0 ≤ k ∧ k ≤ 1000000) (hn : 0 ≤ n ∧ n ≤ 4100) (h1 : 0 ≤ p ∧ p ≤ 1000) (h2 : 0 ≤ q ∧ q ≤ 1000) :
    Calls Try.prog 23 #[.int .u8 kz, .int .i64 k, .int .i64 n, .agg #[.int .i64 p, .int .i64 q]] w fun e w' => e = .returned (.string ⟨(headL kd k n (p, q)).toArray⟩) ∧ Ext w w' := by
  subst hkd
  obtain ⟨g0, g1, _, _⟩ := addr_box (w := w) (.int .i64 p) (.int .i64 q) (Ext.refl _)
  have hx1 := (Ext.refl w).alloc (.cells #[.int .i64 p, .int .i64 q] 38)
  have hs1 : (w.alloc (.cells #[.int .i64 p, .int .i64 q] 38)).heap.size = w.heap.size + 1 := by simp
  unfold headL
  have e1 := by8_wrap (k / 16777216)
  have e2 := by8_wrap (k / 65536)
  have e3 := by8_wrap (k / 256)
  have e4 := by8_wrap k
  have e5 := by8_wrap (n / 256)
  have e6 := by8_wrap n
  have e7 := by8_wrap (p / 256)
  have e8 := by8_wrap p
  have e9 := by8_wrap q
  dsimp only
  generalize by8 (k / 16777216) = x1 at *
  generalize by8 (k / 65536) = x2 at *
  generalize by8 (k / 256) = x3 at *
  generalize by8 k = x4 at *
  generalize by8 (n / 256) = x5 at *
  generalize by8 n = x6 at *
  generalize by8 (p / 256) = x7 at *
  generalize by8 p = x8 at *
  generalize by8 q = x9 at *
  obtain ⟨W1, hW1⟩ : ∃ W1, w.alloc (.cells #[.int .i64 p, .int .i64 q] 38) = W1 := ⟨_, rfl⟩
  rw [hW1] at g0 g1 hx1 hs1
  have hcv := own_text (n := 10) (bytes_own (w := W1) (base := W1.heap.size) [kd, x1, x2, x3, x4, x5, x6, x7, x8, x9] #[.int .u8 kd.toNat, .int .u8 x1.toNat, .int .u8 x2.toNat, .int .u8 x3.toNat, .int .u8 x4.toNat, .int .u8 x5.toNat, .int .u8 x6.toNat, .int .u8 x7.toNat, .int .u8 x8.toNat, .int .u8 x9.toNat] rfl (by simp) hs1 rfl (Nat.le_refl _)) rfl (by omega)
  go_enter Try.func23, Try.ntmps23
  go_wp2
  go_ret
  exact ⟨rfl, hx1.alloc _⟩
set_option maxHeartbeats 1000000 in
theorem rfragment_zero (k all p q : Int) (P : Option Addr) (cap : Nat) (l : List ByteArray) (w : World) (hS : SlG csS w P cap l) (hk : 0 ≤ k ∧ k ≤ 1000000) (ha : 0 ≤ all ∧ all ≤ 4000) (h1 : 0 ≤ p ∧ p ≤ 1000) (h2 : 0 ≤ q ∧ q ≤ 1000) (hi : 0 < l.length) (hll : l.length ≤ 4100) (hp : (l.getD 0 ⟨#[]⟩).size ≤ 4000) :
    Calls Try.prog 16 #[.int .i64 k, .slice P l.length cap, .int .i64 0, .int .i64 all, .agg #[.int .i64 p, .int .i64 q]] w fun e w' => e = .returned (.string (frB k all 0 (p, q) (l.getD 0 ⟨#[]⟩))) ∧ Ext w w' := by
  obtain ⟨b, off, rfl, hc⟩ := hS.at_ 0 (l.getD 0 ⟨#[]⟩) (by rw [List.getD_eq_getElem?_getD, List.getElem?_eq_getElem hi]; rfl)
  have hx1 := (Ext.refl w).alloc (.cells #[.int .i64 p, .int .i64 q] 38)
  have g2 := hx1.cell (hc 0 _ rfl)
  simp only [List.length_cons, List.length_nil, Nat.mul_one, Nat.zero_mul, Nat.add_zero, Nat.zero_add] at g2
  obtain ⟨g0, g1, _, _⟩ := addr_box (w := w) (.int .i64 p) (.int .i64 q) (Ext.refl _)
  have hfr : frH k all 0 (p, q) = headL 65 k all (p, q) := if_pos rfl
  generalize l.getD 0 ⟨#[]⟩ = part at *
  have HE := Lib.hid (show (⟨(headL 65 k all (p, q)).toArray⟩ : ByteArray) ++ part = frB k all 0 (p, q) part from by rw [bytes_app]; unfold frB; rw [hfr])
  have hH := fun W => rhead_any 65 65 k all p q W rfl hk (by omega) h1 h2
  have z1 : (⟨(headL 65 k all (p, q)).toArray⟩ : ByteArray).size = 10 := rfl
  have z2 : ¬ 9223372036854775807 < 10 + part.size := by omega
  have c1 : (0 : Int) < l.length := by omega
  obtain ⟨W1, hW1⟩ : ∃ W1, w.alloc (.cells #[.int .i64 p, .int .i64 q] 38) = W1 := ⟨_, rfl⟩
  rw [hW1] at g0 g1 g2 hx1
  generalize (⟨(headL 65 k all (p, q)).toArray⟩ : ByteArray) = HB at *
  clear hfr hS
  go_enter Try.func16, Try.ntmps16
  go_wp2
  go_region_held3 (fun w' => w'.cell? ⟨w.heap.size, 0, none⟩ = some (.int .i64 p) ∧ w'.cell? ⟨w.heap.size, 1, none⟩ = some (.int .i64 q) ∧ w'.cell? ⟨b, off, none⟩ = some (.string part)) (go_keep)
    (first | (go_at_call 23; refine (hH _).mono ?_; rintro e w5 ⟨rfl, hx5⟩; have m1 := hx5.cell (p := ⟨w.heap.size, 0, none⟩) (v := .int .i64 p) (by exact g0); have m2 := hx5.cell (p := ⟨w.heap.size, 1, none⟩) (v := .int .i64 q) (by exact g1); have m3 := hx5.cell (p := ⟨b, off, none⟩) (v := .string part) (by exact g2); have m5 := Ext.trans (Ext.drew hx1) hx5))
  all_goals (
    go_wp2
    go_ret
    exact ⟨by rw [HE.out]; rfl, m5⟩)
set_option maxHeartbeats 1000000 in
theorem rfragment_more (i : Nat) (k all p q : Int) (P : Option Addr) (cap : Nat) (l : List ByteArray) (w : World) (hS : SlG csS w P cap l) (hk : 0 ≤ k ∧ k ≤ 1000000) (hn : 0 < i) (ha : 0 ≤ all ∧ all ≤ 4000) (h1 : 0 ≤ p ∧ p ≤ 1000) (h2 : 0 ≤ q ∧ q ≤ 1000) (hi : i < l.length) (hll : l.length ≤ 4100) (hp : (l.getD i ⟨#[]⟩).size ≤ 4000) :
    Calls Try.prog 16 #[.int .i64 k, .slice P l.length cap, .int .i64 i, .int .i64 all, .agg #[.int .i64 p, .int .i64 q]] w fun e w' => e = .returned (.string (frB k all i (p, q) (l.getD i ⟨#[]⟩))) ∧ Ext w w' := by
  obtain ⟨b, off, rfl, hc⟩ := hS.at_ i (l.getD i ⟨#[]⟩) (by rw [List.getD_eq_getElem?_getD, List.getElem?_eq_getElem hi]; rfl)
  have hx1 := (Ext.refl w).alloc (.cells #[.int .i64 p, .int .i64 q] 38)
  have g2 := hx1.cell (hc 0 _ rfl)
  simp only [List.length_cons, List.length_nil, Nat.mul_one, Nat.zero_mul, Nat.add_zero, Nat.zero_add] at g2
  obtain ⟨g0, g1, _, _⟩ := addr_box (w := w) (.int .i64 p) (.int .i64 q) (Ext.refl _)
  have hfr : frH k all i (p, q) = headL 67 k i (p, q) := if_neg (by omega)
  generalize l.getD i ⟨#[]⟩ = part at *
  have HE := Lib.hid (show (⟨(headL 67 k i (p, q)).toArray⟩ : ByteArray) ++ part = frB k all i (p, q) part from by rw [bytes_app]; unfold frB; rw [hfr])
  have hH := fun W => rhead_any 67 67 k i p q W rfl hk (by omega) h1 h2
  have z1 : (⟨(headL 67 k i (p, q)).toArray⟩ : ByteArray).size = 10 := rfl
  have z2 : ¬ 9223372036854775807 < 10 + part.size := by omega
  have c1 : (i : Int) < l.length := by omega
  obtain ⟨W1, hW1⟩ : ∃ W1, w.alloc (.cells #[.int .i64 p, .int .i64 q] 38) = W1 := ⟨_, rfl⟩
  rw [hW1] at g0 g1 g2 hx1
  generalize (⟨(headL 67 k i (p, q)).toArray⟩ : ByteArray) = HB at *
  clear hfr hS
  go_enter Try.func16, Try.ntmps16
  go_wp2
  go_region_held3 (fun w' => w'.cell? ⟨w.heap.size, 0, none⟩ = some (.int .i64 p) ∧ w'.cell? ⟨w.heap.size, 1, none⟩ = some (.int .i64 q) ∧ w'.cell? ⟨b, off + i, none⟩ = some (.string part)) (go_keep)
    (first | (go_at_call 23; refine (hH _).mono ?_; rintro e w5 ⟨rfl, hx5⟩; have m1 := hx5.cell (p := ⟨w.heap.size, 0, none⟩) (v := .int .i64 p) (by exact g0); have m2 := hx5.cell (p := ⟨w.heap.size, 1, none⟩) (v := .int .i64 q) (by exact g1); have m3 := hx5.cell (p := ⟨b, off + i, none⟩) (v := .string part) (by exact g2); have m5 := Ext.trans (Ext.drew hx1) hx5))
  all_goals (
    go_wp2
    go_ret
    exact ⟨by rw [HE.out]; rfl, m5⟩)
end
section
open Go.RowKit
set_option linter.unusedVariables false
set_option linter.unusedSimpArgs false
set_option linter.unusedSectionVars false
set_option maxRecDepth 20000

def CutOk (k m : Int) (s : ByteArray) : Prop := s.size ≤ 4000 ∧ (1 ≤ k ∧ k ≤ 1000000) ∧ 1 ≤ m ∧ m ≤ 1000
theorem cut_no (k m : Int) (s : ByteArray) (w : World) (hz : s.size ≤ 4100) (hs : ¬ CutOk k m s) :
    Calls Try.prog 5 #[.int .i64 k, .int .i64 m, .string s] w fun e w' => e = .returned (.tuple #[.slice none 0 0, .int .i64 (if 4000 < s.size then 1 else 7)]) ∧ Ext w w' := by
  have hK := fun W => key_is k W
  by_cases h1 : 4000 < s.size
  · rw [if_pos h1]
    have c1 : 4000 < (s.size : Int) := by omega
    go_enter Try.func5, Try.ntmps5
    go_wp2
    go_ret2
    exact ⟨rfl, Ext.refl w⟩
  · rw [if_neg h1]
    have c1 : ¬ 4000 < (s.size : Int) := by omega
    by_cases h2 : 1 ≤ k ∧ k ≤ 1000000
    · rw [decide_eq_true h2] at hK
      by_cases h3 : 1 ≤ m
      · have h4 : 1000 < m := by
          apply Classical.byContradiction
          intro h4
          exact hs ⟨by omega, h2, h3, by omega⟩
        clear h2
        go_enter Try.func5, Try.ntmps5
        go_wp2_with (go_at_call 11; refine (hK _).mono ?_; rintro e w1 ⟨rfl, rfl⟩)
        go_ret2
        exact ⟨rfl, Ext.refl w⟩
      · clear h2
        go_enter Try.func5, Try.ntmps5
        go_wp2_with (go_at_call 11; refine (hK _).mono ?_; rintro e w1 ⟨rfl, rfl⟩)
        go_ret2
        exact ⟨rfl, Ext.refl w⟩
    · rw [decide_eq_false h2] at hK
      clear h2
      go_enter Try.func5, Try.ntmps5
      go_wp2_with (go_at_call 11; refine (hK _).mono ?_; rintro e w1 ⟨rfl, rfl⟩)
      go_ret2
      exact ⟨rfl, Ext.refl w⟩
theorem rcut_no (k m : Int) (s : ByteArray) (w : World) (hz : s.size ≤ 4100) (hs : ¬ CutOk k m s) :
    Calls Try.prog 6 #[.int .i64 k, .int .i64 m, .string s] w fun e w' => e = .returned (.tuple #[.slice none 0 0, .int .i64 (if 4000 < s.size then 1 else 7)]) ∧ Ext w w' := by
  have hK := fun W => rkey_is k W
  by_cases h1 : 4000 < s.size
  · rw [if_pos h1]
    have c1 : 4000 < (s.size : Int) := by omega
    go_enter Try.func6, Try.ntmps6
    go_wp2
    go_ret2
    exact ⟨rfl, Ext.refl w⟩
  · rw [if_neg h1]
    have c1 : ¬ 4000 < (s.size : Int) := by omega
    by_cases h2 : 1 ≤ k ∧ k ≤ 1000000
    · rw [decide_eq_true h2] at hK
      by_cases h3 : 1 ≤ m
      · have h4 : 1000 < m := by
          apply Classical.byContradiction
          intro h4
          exact hs ⟨by omega, h2, h3, by omega⟩
        clear h2
        go_enter Try.func6, Try.ntmps6
        go_wp2_with (go_at_call 14; refine (hK _).mono ?_; rintro e w1 ⟨rfl, rfl⟩)
        go_ret2
        exact ⟨rfl, Ext.refl w⟩
      · clear h2
        go_enter Try.func6, Try.ntmps6
        go_wp2_with (go_at_call 14; refine (hK _).mono ?_; rintro e w1 ⟨rfl, rfl⟩)
        go_ret2
        exact ⟨rfl, Ext.refl w⟩
    · rw [decide_eq_false h2] at hK
      clear h2
      go_enter Try.func6, Try.ntmps6
      go_wp2_with (go_at_call 14; refine (hK _).mono ?_; rintro e w1 ⟨rfl, rfl⟩)
      go_ret2
      exact ⟨rfl, Ext.refl w⟩
set_option maxHeartbeats 2000000 in
theorem cut_yes (k : Int) (m : Nat) (s : ByteArray) (w : World) (hs : CutOk k m s) :
    Calls Try.prog 5 #[.int .i64 k, .int .i64 m, .string s] w fun e w' => (∃ v, e = .returned (.tuple #[v, .int .i64 0]) ∧ OwnS w' w.heap.size v (cutF k s.size (partsL m s) (partsL m s).length)) ∧ Ext w w' := by
  obtain ⟨h1, h2, h3, h4⟩ := hs
  have hK := fun W => key_is k W
  rw [decide_eq_true h2] at hK
  have hP := fun W => parts_any m s W (by omega) (by omega) h1
  obtain ⟨hl1, hl2⟩ := partsL_len m s
  have hsz := partsL_sizeLe (m := m) s
  have HS := Lib.hid (fun (i : Nat) (hi : i < (partsL m s).length) => show ((partsL m s).getD i ⟨#[]⟩).size ≤ 4000 from by
    have := hsz ((partsL m s).getD i ⟨#[]⟩) (by rw [List.getD_eq_getElem?_getD, List.getElem?_eq_getElem hi]; simp)
    omega)
  have c1 : ¬ 4000 < (s.size : Int) := by omega
  clear hsz
  generalize partsL m s = L at *
  have HK := Lib.hid h2
  have HL := Lib.hid hl2
  clear h2 hl2
  go_enter Try.func5, Try.ntmps5
  go_wp2_with (first
    | (go_at_call 11; refine (hK _).mono ?_; rintro e w1 ⟨rfl, rfl⟩)
    | (go_at_call 12; refine (hP _).mono ?_; rintro e w1 ⟨⟨v1, rfl, ho1⟩, hx1⟩; obtain ⟨P1, cap1, rfl, hS1⟩ := ho1.slG elemS (by have := HL.out; omega)))
  go_loopw [8, 31] (fun o iv wr => ∃ i : Nat, i ≤ L.length ∧ iv = .int .i64 i ∧ OwnS wr w1.heap.size o (cutF k s.size L i) ∧ Ext w1 wr) (fun o iv _ => L.length - (intOf iv).toNat)
  case atStart => exact ⟨0, by omega, rfl, OwnG.nil _ _ _ _ _, Ext.refl w1⟩
  case round =>
    obtain ⟨i, hi, rfl, hown, hx⟩ := hrel
    have HO := Lib.hid hown
    have HW := Lib.hid hx.size
    by_cases hlt : i < L.length
    · have HC := Lib.hid (cutF_succ k s.size L i)
      have HCL := Lib.hid (cutF_len k s.size L i)
      have HZ := Lib.hid (HS.out i hlt)
      have hF := fun W (hW : Ext w1 W) => show Calls Try.prog 13 #[.int .i64 k, .int .i64 i, .int .i64 s.size, .agg #[.int .i64 0, .int .i64 0], .string (L.getD i ⟨#[]⟩)] W (fun e w' => e = .returned (.string (frB k s.size i (0, 0) (L.getD i ⟨#[]⟩))) ∧ Ext W w') from by
        have := HK.out
        have := HL.out
        by_cases h0 : i = 0
        · subst h0
          exact framed_zero k s.size 0 0 _ W (by omega) (by omega) (by omega) (by omega) HZ.out
        · exact framed_more k i s.size 0 0 _ W (by omega) (by omega) (by omega) (by omega) (by omega) HZ.out
      obtain ⟨b, off, rfl, hc⟩ := hS1.at_ i (L.getD i ⟨#[]⟩) (by rw [List.getD_eq_getElem?_getD, List.getElem?_eq_getElem hlt]; rfl)
      have g2 := hx.cell (hc 0 _ rfl)
      simp only [List.length_cons, List.length_nil, Nat.mul_one, Nat.add_zero, Nat.zero_add] at g2
      have hll := HL.out
      have c2 : (i : Int) < L.length := by omega
      clear hown
      generalize L.getD i ⟨#[]⟩ = part at *
      generalize hfx : frB k s.size i (0, 0) part = fx at *
      generalize cutF k s.size L i = done at *
      clear hfx
      go_wp2_with (first
        | (go_at_call 13; refine (hF _ (by exact hx)).mono ?_; rintro e w5 ⟨rfl, hx5⟩)
        | (at_builtin; refine wpList_app_G _ elemS rfl _ _ rfl (base := w1.heap.size) rfl ((HO.out.ext hx5).ext ((Ext.refl _).alloc _)) (m := [fx]) rfl (SlG.one elemS.hk _ ?d1 ?d2) ?d3 ?d4 ?d5 ?d6 ?_))
      case d1 => rfl
      all_goals first
        | rfl
        | (intro e; cases e; done)
        | (have := HCL.out; have := HL.out; have := hx5.size; have := HW.out; simp; omega; done)
        | (have := HCL.out; have := HL.out; have := hx5.size; have := HW.out; simp only [List.length_singleton]; omega; done)
        | skip
      intro v' w6 hown' hbl
      have hx6 : Ext w1 w6 := below_ext ((hx.trans hx5).alloc _) hbl (Nat.le_refl _)
      go_wp2
      go_roundw
      case rel => exact ⟨i + 1, by omega, by go_num, by rw [HC.out]; exact hown', hx6⟩
      case measure => simp [intOf]; omega
    · obtain rfl : i = L.length := by omega
      go_wp2
      go_ret2
      exact ⟨⟨_, rfl, ownsRow_base hown hx1.size⟩, hx1.trans hx⟩
set_option maxHeartbeats 2000000 in
theorem rcut_yes (k : Int) (m : Nat) (s : ByteArray) (w : World) (hs : CutOk k m s) :
    Calls Try.prog 6 #[.int .i64 k, .int .i64 m, .string s] w fun e w' => (∃ v, e = .returned (.tuple #[v, .int .i64 0]) ∧ OwnS w' w.heap.size v (cutF k s.size (partsL m s) (partsL m s).length)) ∧ Ext w w' := by
  obtain ⟨h1, h2, h3, h4⟩ := hs
  have hK := fun W => rkey_is k W
  rw [decide_eq_true h2] at hK
  have hP := fun W => rparts_any m s W (by omega) (by omega) h1
  obtain ⟨hl1, hl2⟩ := partsL_len m s
  have hsz := partsL_sizeLe (m := m) s
  have HS := Lib.hid (fun (i : Nat) (hi : i < (partsL m s).length) => show ((partsL m s).getD i ⟨#[]⟩).size ≤ 4000 from by
    have := hsz ((partsL m s).getD i ⟨#[]⟩) (by rw [List.getD_eq_getElem?_getD, List.getElem?_eq_getElem hi]; simp)
    omega)
  have c1 : ¬ 4000 < (s.size : Int) := by omega
  clear hsz
  generalize partsL m s = L at *
  have HK := Lib.hid h2
  have HL := Lib.hid hl2
  clear h2 hl2
  go_enter Try.func6, Try.ntmps6
  go_wp2_with (first
    | (go_at_call 14; refine (hK _).mono ?_; rintro e w1 ⟨rfl, rfl⟩)
    | (go_at_call 15; refine (hP _).mono ?_; rintro e w1 ⟨⟨v1, rfl, ho1⟩, hx1⟩; obtain ⟨P1, cap1, rfl, hS1⟩ := ho1.slG elemS (by have := HL.out; omega)))
  go_loopw [9, 10] (fun o iv wr => ∃ i : Nat, i ≤ L.length ∧ iv = .int .i64 i ∧ OwnS wr w1.heap.size o (cutF k s.size L i) ∧ Ext w1 wr) (fun o iv _ => L.length - (intOf iv).toNat)
  case atStart => exact ⟨0, by omega, rfl, OwnG.nil _ _ _ _ _, Ext.refl w1⟩
  case round =>
    obtain ⟨i, hi, rfl, hown, hx⟩ := hrel
    have HO := Lib.hid hown
    have HW := Lib.hid hx.size
    by_cases hlt : i < L.length
    · have HC := Lib.hid (cutF_succ k s.size L i)
      have HCL := Lib.hid (cutF_len k s.size L i)
      have HZ := Lib.hid (HS.out i hlt)
      have hF := fun W (hW : Ext w1 W) => show Calls Try.prog 16 #[.int .i64 k, .slice P1 L.length cap1, .int .i64 i, .int .i64 s.size, .agg #[.int .i64 0, .int .i64 0]] W (fun e w' => e = .returned (.string (frB k s.size i (0, 0) (L.getD i ⟨#[]⟩))) ∧ Ext W w') from by
        have := HK.out
        have := HL.out
        by_cases h0 : i = 0
        · subst h0
          exact rfragment_zero k s.size 0 0 P1 cap1 L W (hS1.ext hW) (by omega) (by omega) (by omega) (by omega) (by omega) (by omega) HZ.out
        · exact rfragment_more i k s.size 0 0 P1 cap1 L W (hS1.ext hW) (by omega) (by omega) (by omega) (by omega) (by omega) (by omega) (by omega) HZ.out
      have hll := HL.out
      have c2 : (i : Int) < L.length := by omega
      clear hown
      generalize L.getD i ⟨#[]⟩ = part at *
      generalize hfx : frB k s.size i (0, 0) part = fx at *
      generalize cutF k s.size L i = done at *
      clear hfx
      go_wp2_with (first
        | (go_at_call 16; refine (hF _ (by exact hx)).mono ?_; rintro e w5 ⟨rfl, hx5⟩)
        | (at_builtin; refine wpList_app_G _ elemS rfl _ _ rfl (base := w1.heap.size) rfl ((HO.out.ext hx5).ext ((Ext.refl _).alloc _)) (m := [fx]) rfl (SlG.one elemS.hk _ ?d1 ?d2) ?d3 ?d4 ?d5 ?d6 ?_))
      case d1 => rfl
      all_goals first
        | rfl
        | (intro e; cases e; done)
        | (have := HCL.out; have := HL.out; have := hx5.size; have := HW.out; simp; omega; done)
        | (have := HCL.out; have := HL.out; have := hx5.size; have := HW.out; simp only [List.length_singleton]; omega; done)
        | skip
      intro v' w6 hown' hbl
      have hx6 : Ext w1 w6 := below_ext ((hx.trans hx5).alloc _) hbl (Nat.le_refl _)
      go_wp2
      go_roundw
      case rel => exact ⟨i + 1, by omega, by go_num, by rw [HC.out]; exact hown', hx6⟩
      case measure => simp [intOf]; omega
    · obtain rfl : i = L.length := by omega
      go_wp2
      go_ret2
      exact ⟨⟨_, rfl, ownsRow_base hown hx1.size⟩, hx1.trans hx⟩
end
section
open Go.RowKit
set_option linter.unusedVariables false
set_option linter.unusedSimpArgs false
set_option linter.unusedSectionVars false
set_option maxRecDepth 20000

set_option maxHeartbeats 2000000 in
theorem pieceCuts_any (k m : Int) (s : ByteArray) (w : World) (hs : s.size ≤ 140737488355328) :
    Calls Try.prog 3 #[.int .i64 k, .int .i64 m, .string s] w fun e w' => e = .returned (.bool true) ∧ Ext w w' := by
  have hAw := fun W => awake8_any W
  by_cases hb : 4100 < s.size
  · have c1 : (4100 : Int) < s.size := by omega
    go_enter Try.func3, Try.ntmps3
    go_wp2_with (go_at_call 4; refine (hAw _).mono ?_; rintro e w1 ⟨rfl, hx1⟩)
    go_ret
    exact ⟨rfl, hx1⟩
  · have c1 : ¬ (4100 : Int) < s.size := by omega
    by_cases hok : CutOk k m s
    · obtain ⟨n, rfl⟩ : ∃ n : Nat, m = n := ⟨m.toNat, by have := hok.2.2; omega⟩
      have h1 := fun W => cut_yes k n s W hok
      have h2 := fun W => rcut_yes k n s W hok
      have hl1 := (partsL_len n s).2
      have hl2 := cutF_len k s.size (partsL n s) (partsL n s).length
      have h4 := hok.1
      obtain ⟨L, hL⟩ : ∃ L, cutF k s.size (partsL n s) (partsL n s).length = L := ⟨_, rfl⟩
      rw [hL] at h1 h2 hl2
      have hll : L.length ≤ 4100 := by omega
      clear hl1 hl2 hL hok h4
      go_enter Try.func3, Try.ntmps3
      go_wp2_with (first
        | (go_at_call 5; refine (h1 _).mono ?_; rintro e w1 ⟨⟨v1, rfl, ho1⟩, hx1⟩; obtain ⟨P1, cap1, rfl, hS1⟩ := ho1.slG elemS (by omega); clear h1)
        | (go_at_call 6; refine (h2 _).mono ?_; rintro e w2 ⟨⟨v2, rfl, ho2⟩, hx2⟩; obtain ⟨P2, cap2, rfl, hS2⟩ := ho2.slG elemS (by omega); clear h2))
      have hT1 := hS1.ext hx2
      have HX := Lib.hid (hx1.trans hx2)
      clear ho1 ho2 hS1 hx1 hx2
      go_loopw [11] (fun iv wr => ∃ i : Nat, i ≤ L.length ∧ iv = .int .i64 i ∧ Ext w2 wr) (fun iv _ => L.length - (intOf iv).toNat)
      case atStart => exact ⟨0, by omega, rfl, Ext.refl w2⟩
      case round =>
        obtain ⟨i, hi, rfl, hx⟩ := hrel
        by_cases hlt : i < L.length
        · obtain ⟨ba, oa, rfl, hc1⟩ := hT1.at_ i (L.getD i ⟨#[]⟩) (by rw [List.getD_eq_getElem?_getD, List.getElem?_eq_getElem hlt]; rfl)
          obtain ⟨bb, ob, rfl, hc2⟩ := hS2.at_ i (L.getD i ⟨#[]⟩) (by rw [List.getD_eq_getElem?_getD, List.getElem?_eq_getElem hlt]; rfl)
          have g1 := hx.cell (hc1 0 _ rfl)
          have g2 := hx.cell (hc2 0 _ rfl)
          simp only [List.length_cons, List.length_nil, Nat.mul_one, Nat.add_zero, Nat.zero_add] at g1 g2
          generalize L.getD i ⟨#[]⟩ = T at *
          have c2 : (i : Int) < L.length := by omega
          clear hc1 hc2
          go_wp2
          go_quiet (fail)
          go_wp2
          go_roundw
          case rel => exact ⟨i + 1, by omega, by go_num, hx.drewN _⟩
          case measure => simp [intOf]; omega
        · obtain rfl : i = L.length := by omega
          go_wp2_with (go_at_call 4; refine (hAw _).mono ?_; rintro e w3 ⟨rfl, hx3⟩)
          go_ret
          exact ⟨rfl, (HX.out.trans hx).trans hx3⟩
    · have h1 := fun W => cut_no k m s W (by omega) hok
      have h2 := fun W => rcut_no k m s W (by omega) hok
      generalize (if 4000 < s.size then (1 : Int) else 7) = c at *
      clear hok
      go_enter Try.func3, Try.ntmps3
      go_wp2_with (first
        | (go_at_call 5; refine (h1 _).mono ?_; rintro e w1 ⟨rfl, hx1⟩; clear h1)
        | (go_at_call 6; refine (h2 _).mono ?_; rintro e w2 ⟨rfl, hx2⟩; clear h2))
      go_loopw [11] (fun iv wr => iv = .int .i64 0 ∧ wr = w2) (fun _ _ => 0)
      case atStart => exact ⟨rfl, rfl⟩
      case round =>
        obtain ⟨rfl, rfl⟩ := hrel
        go_wp2_with (go_at_call 4; refine (hAw _).mono ?_; rintro e w3 ⟨rfl, hx3⟩)
        go_ret
        exact ⟨rfl, (hx1.trans hx2).trans hx3⟩
end
section
open Go.RowKit Go.WideShapes Go.ChangeShapes Go.Deep
set_option linter.unusedVariables false

section
variable {H : Type} {enc : TypeId × Value → H} {P : Program}
theorem post_of_below {f : Func} {s : ChangeSpec} {apart fresh handsOn again : Bool} {W W' : World} {args : Array Value} {v : Value} {ds gs : List (DataW H)} {before pa pv : List MemPlace}
    (hW : DataW.Whole enc P f.params.toList s.vars apart W args.toList ds gs before)
    (hres : ∀ (b : Nat) (sp : Nat → Bool) (hd : Bool), DataW.TrodAll enc P W' b sp hd f.resultTypes.toList (v.resultList f.resultTypes.size) (s.fn H (ds ++ gs)).results [])
    (hargs : ∀ sp : Nat → Bool, (∀ p ∈ before, sp p.block = true) → DataW.TrodAll enc P W' 0 sp true f.params.toList args.toList (s.fn H (ds ++ gs)).args pa)
    (hvars : ∀ sp : Nat → Bool, (∀ p ∈ before, sp p.block = true) → DataW.TrodVars enc P W' sp s.vars (s.fn H (ds ++ gs)).vars pv)
    (hps : before = pa ++ pv) (hb : Below W.heap.size W W')
    (hok : ∀ (j : Nat) (t : TypeId) (r : Value), f.resultTypes[j]? = some t → (v.resultList f.resultTypes.size)[j]? = some r → Value.okWide P W' .any 0 t r) :
    s.post enc P f apart fresh handsOn again W args v W' := by
  have hlt : ∀ p ∈ before, p.block < W.heap.size := fun p hp => hW.lt p hp
  have hold : ∀ p ∈ before, (fun b => decide (b < W.heap.size)) p.block = true := fun p hp => by simpa using hlt p hp
  refine ⟨ds, gs, before, [], pa, pv, hW, hres _ _ _, hargs _ hold, hvars _ hold, World.keptBut_mono (fun p hp => ⟨hp, ?_⟩) (hb.frame (· ∈ before)), fun _ => ?_⟩
  · rw [hps, List.mem_append] at hp
    exact Or.inr hp
  · obtain ⟨_, _, _, _, _, hz, hn⟩ := hW
    refine ⟨hok, _, _, ([] ++ pa) ++ pv, ⟨[] ++ pa, pv, trodAll_append (hargs _ (fun _ _ => rfl)) (hres _ _ _), hvars _ (fun _ _ => rfl), rfl, ?_, ?_⟩, ?_⟩
    · intro b off hp
      have hin : MemPlace.cell b off ∈ before := by rw [hps]; simpa using hp
      rw [hb.frozen (hlt _ hin)]
      exact hz b off hin
    · intro ha
      have := hn ha
      rw [hps] at this
      simpa using this
    · intro p hp _
      rw [hps]
      simpa using hp
end

theorem own : ownKnob Try.prog.godebug = none := by kernel_rfl
theorem laidOut : laidOutB Try.prog = true := by kernel_rfl

theorem weightsAll_in {H : Type} {P : Program} {e : TypeId} : ∀ {l : List (DataW H)} {d : DataW H}, d ∈ l → ∀ n ∈ d.weights P e, n ∈ DataW.weightsAll P e l
  | c :: l, d, hd, n, hn => by
    simp only [DataW.weightsAll, List.mem_append]
    rcases List.mem_cons.1 hd with h | h
    · subst h; exact .inl hn
    · exact .inr (weightsAll_in h n hn)
  | [], _, hd, _, _ => by cases hd
end
end Go.Proofs.Ytcbainmpikcfjaa

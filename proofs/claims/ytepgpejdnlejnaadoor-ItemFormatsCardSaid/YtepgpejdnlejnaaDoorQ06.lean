/- ItI; ItV; ItXA; ItXB; ItXC; ItJ; ItK (merged by group.py) -/
import Derived.Test.YtepgpejdnlejnaaDoorQ05
import Derived.Test.YtepgpejdnlejnaaDoorQ04
import Derived.Lib.ItoaLen
import Derived.Test.YtepgpejdnlejnaaDoorShelfB
import Derived.Lib.ConvBytes
import Derived.Lib.ParseIntBMem
import Derived.Lib.AtoiErrMem
import Derived.Laws.Strings3
import Derived.Laws.Closers25
import Derived.Laws.Closers25b
import Derived.Lib.Walk
import Derived.BigCall
import Derived.BigGuard
import Derived.Deep.RegionLaw
import Derived.WalkSmall
namespace Go.Proofs.YtepgpejdnlejnaaDoor
section
open Go.RowKit
set_option linter.unusedVariables false
set_option linter.unusedSimpArgs false
set_option linter.unusedSectionVars false
set_option maxRecDepth 20000
attribute [local go_sem] Oper.semAt_some

theorem notvalid_any (x : Vl) (w : World) : Calls Tryd.prog 59 #[x.v] w fun e w' => e = .returned (.bool (!valB x)) ∧ Ext w w' := by
  have hV := fun W => value_any x W
  obtain ⟨k, n, s⟩ := x
  show Calls _ _ #[.agg #[.int .i64 k, .int .i64 n, .string s]] _ _
  unfold Vl.v at hV
  obtain ⟨r, hr⟩ : ∃ r, valB (k, n, s) = r := ⟨_, rfl⟩
  simp only [hr] at hV ⊢
  clear hr
  go_enter Tryd.func59, Tryd.ntmps59
  go_wp2_with (go_at_call 12; refine (hV _).mono ?_; rintro e w1 ⟨rfl, hx1⟩)
  go_ret
  exact ⟨rfl, Ext.trans ((Ext.refl w).alloc _) hx1⟩
theorem indexBad_any (P : Option Addr) (cap : Nat) (l : List Vl) (w : World) (h : SlV w P cap l) :
    Calls Tryd.prog 92 #[.slice P l.length cap, .func (.func 59) #[] #[]] w fun e w' => (∃ i : Int, e = .returned (.int .i64 i) ∧ decide (0 ≤ i) = !l.all valB) ∧ Ext w w' := by
  have hlen := h.len
  go_enter Tryd.func92, Tryd.ntmps92
  go_wp2
  go_loopw [8, 5] (fun i _ wr => ∃ k : Nat, k ≤ l.length ∧ i = .int .i64 k ∧ (l.take k).all valB = true ∧ Ext w wr) (fun i _ _ => l.length - (intOf i).toNat)
  case atStart => exact ⟨0, by omega, rfl, by simp, Ext.refl w⟩
  case round =>
    obtain ⟨k, hk, rfl, hall, hx⟩ := hrel
    by_cases hlt : k < l.length
    · obtain ⟨b, off, hP, g0, g1, g2⟩ := h.valAt k hlt
      subst hP
      have g0 := hx.cell g0
      have g1 := hx.cell g1
      have g2 := hx.cell g2
      have c1 : (k : Int) < l.length := by omega
      have hs := nthV_some hlt
      have d1 : IntKind.i64.wrap ((k : Int) + 1) = (k : Int) + 1 := IntWalk.i64_in _ ⟨by omega, by omega⟩
      have hV := fun W => notvalid_any (nthV l k) W
      unfold Vl.v at hV
      cases hv : valB (nthV l k) with
      | false =>
        have Hn : Hid (l.all valB = false) := Lib.hid (all_no hs hv)
        simp only [hv, Bool.not_false] at hV
        generalize nthV l k = x at *
        clear hall hs hv
        go_wp2_with (go_at_call 59; refine (hV _).mono ?_; rintro e w1 ⟨rfl, hx1⟩)
        go_ret
        exact ⟨⟨k, rfl, by rw [Hn.out, decide_eq_true (by omega)]; rfl⟩, hx.trans hx1⟩
      | true =>
        have Hy : Hid ((l.take (k + 1)).all valB = true) := Lib.hid (all_take hs hall hv)
        simp only [hv, Bool.not_true] at hV
        generalize nthV l k = x at *
        clear hall hs hv
        go_wp2_with (go_at_call 59; refine (hV _).mono ?_; rintro e w1 ⟨rfl, hx1⟩)
        go_roundw
        case rel => exact ⟨k + 1, by omega, by go_num, Hy.out, hx.trans hx1⟩
        case measure => simp [intOf]; omega
    · obtain rfl : k = l.length := by omega
      rw [List.take_length] at hall
      have Hall := Lib.hid hall
      clear hall
      go_wp2
      go_ret
      exact ⟨⟨-1, rfl, by rw [Hall.out]; rfl⟩, hx⟩
theorem containsBad_any (P : Option Addr) (cap : Nat) (l : List Vl) (w : World) (h : SlV w P cap l) :
    Calls Tryd.prog 58 #[.slice P l.length cap, .func (.func 59) #[] #[]] w fun e w' => e = .returned (.bool (!l.all valB)) ∧ Ext w w' := by
  have hI := indexBad_any P cap l w h
  go_enter Tryd.func58, Tryd.ntmps58
  go_wp2_with (go_at_call 92; refine hI.mono ?_; rintro e w1 ⟨⟨i, rfl, hi⟩, hx1⟩; have Hi := Lib.hid hi; clear hi)
  go_ret
  exact ⟨by rw [← Hi.out]; rfl, hx1⟩
theorem row_any (P : Option Addr) (cap : Nat) (l : List Vl) (w : World) (h : SlV w P cap l) :
    Calls Tryd.prog 18 #[.slice P l.length cap] w fun e w' => e = .returned (.bool (rowB l)) ∧ Ext w w' := by
  have hC := containsBad_any P cap l w h
  have hlen := h.len
  by_cases h8 : l.length ≤ 8
  · have h8' : (l.length : Int) ≤ 8 := by omega
    have Hn : Hid (rowB l = l.all valB) := Lib.hid (by unfold rowB; rw [decide_eq_true h8, Bool.and_true])
    generalize l.all valB = r at *
    go_enter Tryd.func18, Tryd.ntmps18
    go_wp2_with (go_at_call 58; refine hC.mono ?_; rintro e w1 ⟨rfl, hx1⟩)
    go_ret
    exact ⟨by rw [Hn.out]; first | rfl | (simp; done), hx1⟩
  · have h8' : decide ((l.length : Int) ≤ 8) = false := decide_eq_false (by omega)
    have Hn : Hid (rowB l = false) := Lib.hid (by unfold rowB; rw [decide_eq_false h8, Bool.and_false])
    clear h8
    go_enter Tryd.func18, Tryd.ntmps18
    go_wp2_with (go_at_call 58; refine hC.mono ?_; rintro e w1 ⟨rfl, hx1⟩)
    go_ret
    exact ⟨by rw [Hn.out]; first | rfl | (simp; done) | (simp; omega), by first | exact Ext.refl _ | exact hx1⟩
end
section
open Go.RowKit
set_option linter.unusedVariables false
set_option linter.unusedSimpArgs false
set_option linter.unusedSectionVars false
set_option maxRecDepth 100000
attribute [local go_sem] Oper.semAt_some

theorem str_info : ∃ i, Tryd.prog.info? 9 = some i ∧ i.zero = some (.string ⟨#[]⟩) ∧ i.size = 1 ∧ i.bytes = 16 := by
  have h : (Tryd.prog.info? 9).map (fun i => (i.zero, i.size, i.bytes)) = some (some (.string ⟨#[]⟩), 1, 16) := by kernel_rfl
  cases hq : Tryd.prog.info? 9 with
  | none => simp [hq] at h
  | some i => simp [hq] at h; exact ⟨i, rfl, h.1, h.2.1, h.2.2⟩
theorem own_ext {A B : World} {base : Nat} {e : TypeId} {size : Nat} {v : Value} {n : Nat} {xs : List Value} (h : A.ownsRow base e size v n xs) (hx : Ext A B) : B.ownsRow base e size v n xs := by
  refine ⟨h.1, ?_⟩
  rcases h.2 with h0 | ⟨g, cap, cur, hv, hb, hg, rest⟩
  · exact .inl h0
  · exact .inr ⟨g, cap, cur, hv, hb, hx.heap hg, rest⟩
def wrS (x : Vl) : ByteArray := ⟨(wrL x).toArray⟩
def wrVs (l : List Vl) : List Value := l.map fun x => .string (wrS x)
def textL (l : List Vl) : List UInt8 := if rowB l = true then Lib.join (l.map wrL) [44] else []
theorem wrL_le {x : Vl} (h : valB x = true) : (wrL x).length ≤ 200 := by
  unfold wrL
  unfold valB at h
  split
  · next hk =>
    rw [if_pos hk] at h
    simp [withinB] at h
    have := Lib.itoa_length_le x.2.1 (by omega) (by omega)
    omega
  · next hk =>
    rw [if_neg hk] at h
    have h := of_decide_eq_true h
    have := escA_le x.2.2 x.2.2.size
    simp only [List.length_append, List.length_cons, List.length_nil]
    omega
theorem valB_in {x : Vl} (h : valB x = true) : (-9223372036854775808 ≤ x.2.1 ∧ x.2.1 ≤ 9223372036854775807) ∧ x.2.2.size ≤ 1000 := by
  unfold valB at h
  split at h
  · unfold withinB at h
    rw [Bool.and_eq_true, decide_eq_true_eq, decide_eq_true_eq] at h
    omega
  · have h := of_decide_eq_true h
    omega
theorem join_le (sep : List UInt8) (m : Nat) : ∀ (l : List (List UInt8)), (∀ x ∈ l, x.length ≤ m) → (Lib.join l sep).length ≤ l.length * (m + sep.length)
  | [], _ => by simp [Lib.join_nil]
  | x :: r, h => by
    rw [Lib.join_cons, List.length_append]
    have h1 := h x (by simp)
    have : ∀ (r : List (List UInt8)), (∀ x ∈ r, x.length ≤ m) → (Lib.joinTail sep r).length ≤ r.length * (m + sep.length) := by
      intro r
      induction r with
      | nil => intro _; simp [Lib.joinTail]
      | cons y r ih =>
        intro hy
        have h2 := hy y (by simp)
        have := ih (fun z hz => hy z (by simp [hz]))
        unfold Lib.joinTail at *
        simp only [List.map_cons, List.flatten_cons, List.length_append, List.length_cons]
        rw [Nat.add_mul]
        omega
    have := this r (fun z hz => h z (by simp [hz]))
    simp only [List.length_cons]
    rw [Nat.add_mul]
    omega

set_option maxHeartbeats 4000000 in
theorem text_any (P : Option Addr) (cap : Nat) (l : List Vl) (w : World) (h : SlV w P cap l) (ht : Tab w) :
    Calls Tryd.prog 44 #[.slice P l.length cap] w fun e w' => e = .returned (.string ⟨(textL l).toArray⟩) ∧ Ext w w' := by
  have hlen := h.len
  have hR := row_any P cap l w h
  obtain ⟨i0, hi, hz0, hz1, hz2⟩ := str_info
  cases hr : rowB l with
  | false =>
    have HB := Lib.hid (show textL l = [] from by simp [textL, hr])
    simp only [hr] at hR
    clear hr
    go_enter Tryd.func44, Tryd.ntmps44
    go_wp2_with (go_at_call 18; refine hR.mono ?_; rintro e w1 ⟨rfl, hx1⟩)
    go_ret
    exact ⟨by rw [HB.out]; rfl, hx1⟩
  | true =>
    have HB := Lib.hid (show textL l = Lib.join (l.map wrL) [44] from by simp [textL, hr])
    simp only [hr] at hR
    have h8 : l.length ≤ 8 := by unfold rowB at hr; simp at hr; exact hr.2
    have hall : ∀ x ∈ l, valB x = true := by unfold rowB at hr; simp at hr; intro x hx; exact hr.1 _ _ _ hx
    clear hr
    go_enter Tryd.func44, Tryd.ntmps44
    go_wp2_with (go_at_call 18; refine hR.mono ?_; rintro e w1 ⟨rfl, hx1⟩)
    go_loopw [11, 3, 5] (fun i v _ wr => ∃ k : Nat, k ≤ l.length ∧ i = .int .i64 k ∧ wr.ownsRow w.heap.size 9 1 v k (wrVs (l.take k)) ∧ Ext w wr) (fun i _ _ _ => l.length - (intOf i).toNat)
    case atStart => exact ⟨0, by omega, rfl, World.ownsRow_nil _ _ _ _, hx1⟩
    case round =>
      obtain ⟨k, hk, rfl, hown, hx⟩ := hrel
      by_cases hlt : k < l.length
      · obtain ⟨b, off, hP, g0, g1, g2⟩ := h.valAt k hlt
        subst hP
        have g0 := hx.cell g0
        have g1 := hx.cell g1
        have g2 := hx.cell g2
        have c1 : (k : Int) < l.length := by omega
        have d1 : IntKind.i64.wrap ((k : Int) + 1) = (k : Int) + 1 := IntWalk.i64_in _ ⟨by omega, by omega⟩
        have hv := valB_in (hall _ (nthV_mem hlt))
        have hs : wrVs (l.take (k + 1)) = wrVs (l.take k) ++ [.string (wrS (nthV l k))] := by
          unfold wrVs
          rw [List.take_add_one, nthV_some hlt]
          simp
        have Hs := Lib.hid hs
        have hW := fun W hx => written_any (nthV l k) W (Tab.ext ht hx) hv.1 hv.2
        unfold Vl.v at hW
        have hwr : (⟨(wrL (nthV l k)).toArray⟩ : ByteArray) = wrS (nthV l k) := rfl
        rw [hwr] at hW
        generalize wrS (nthV l k) = y at *
        generalize nthV l k = x at *
        clear hs hv hwr
        go_wp2_with (first
          | (go_at_call 75; refine (hW _ (hx.alloc _)).mono ?_; rintro e w2 ⟨rfl, hx2⟩)
          | (at_builtin; refine wpList_append_own _ rfl _ _ 41 rfl w.heap.size 9 i0 (.string ⟨#[]⟩) 1 16 Tryd.underlying41 hi hz0 hz1 hz2 rfl (by decide) _ _ _ rfl (own_ext hown ((((Ext.refl wr).alloc _).trans hx2).alloc _)) ⟨w2.heap.size, 0, none⟩ 1 1 [.string y] rfl rfl ?c1 ?c2 ?c3 ?c4 ?c5 ?_))
        case c1 =>
          intro j u hj
          match j, hj with
          | 0, hj => simp at hj; subst hj; simp [Addr.add]
        case c2 => intro u hu; simp at hu; subst hu; rfl
        case c3 => unfold maxLen; omega
        case c4 => omega
        case c5 => have := hx.size; have := hx2.size; simp at this; simp; omega
        intro v' w3 hown' hgrow hne
        go_wp2
        go_roundw
        case rel => exact ⟨k + 1, by omega, by go_num, by rw [Hs.out]; exact hown', Below.grown ((hx.alloc _).trans hx2 |>.alloc _) hgrow (by have := hx.size; have := hx2.size; simp at this; simp; omega) (fun j hj => (hown.lt j hj).1)⟩
        case measure => simp [intOf]; omega
      · obtain rfl : k = l.length := by omega
        rw [List.take_length] at hown
        have hlt2 : (Lib.join (l.map wrL) [44]).length ≤ 140737488355328 := by
          have := join_le [44] 200 (l.map wrL) (by
            intro x hx
            obtain ⟨y, hy, rfl⟩ := List.mem_map.1 hx
            exact wrL_le (hall y hy))
          rw [List.length_map] at this
          have h2 : l.length * (200 + [44].length) ≤ 8 * 201 := Nat.mul_le_mul h8 (by simp)
          omega
        rcases hown.2 with ⟨rfl, hl0⟩ | ⟨g, c, cur, rfl, hgb, hg, hcl, hcm, hcs, htk⟩
        · obtain rfl := List.length_eq_zero_iff.1 hl0
          go_wp2_with (go_at_call 76; refine (Tryd.strings_Join_none _ _ _ _).mono ?_; rintro e w2 ⟨rfl, rfl⟩)
          go_ret
          exact ⟨by rw [HB.out]; rfl, hx⟩
        · have hJ := Tryd.strings_Join g 0 c (l.map wrS) ⟨#[44]⟩ wr (fun j x hj => by
            have := hown.cells (g := g) rfl j (.string x) (by
              unfold wrVs
              rw [List.getElem?_map] at hj ⊢
              cases hq : l[j]? with
              | none => rw [hq] at hj; cases hj
              | some y => rw [hq] at hj; simp at hj; subst hj; rfl)
            cases j with
            | zero => simpa [Addr.add] using this
            | succ j => simpa [Addr.add] using this) (Array.getElem?_eq_some_iff.1 hg).1 (by rw [List.length_map]; omega) (by rw [List.length_map]; exact hcl) (by
              rw [List.map_map]
              exact hlt2)
          rw [List.length_map, List.map_map] at hJ
          rw [show ((fun x : ByteArray => x.data.toList) ∘ wrS) = wrL from by funext x; simp [wrS]] at hJ
          clear hown hall
          generalize Lib.join (l.map wrL) [44] = z at *
          go_wp2_with (go_at_call 76; refine hJ.mono ?_; rintro e w2 ⟨rfl, hx2⟩)
          go_ret
          exact ⟨by rw [HB.out]; rfl, hx.trans hx2⟩
end
section
open Go
set_option linter.unusedVariables false
set_option linter.unusedSimpArgs false
set_option linter.unusedSectionVars false

def toP (x : Vl) : VlP := (x.1, x.2.1, x.2.2.data.toList)
def ofP (y : VlP) : Vl := (y.1, y.2.1, ⟨y.2.2.toArray⟩)
theorem ofP_toP (x : Vl) : ofP (toP x) = x := rfl
theorem toP_ofP (y : VlP) : toP (ofP y) = y := by simp [toP, ofP]
def rowP (l : List VlP) : Bool := rowB (l.map ofP)
theorem rowP_map (l : List Vl) : rowP (l.map toP) = rowB l := by
  unfold rowP
  rw [List.map_map, show ofP ∘ toP = id from rfl, List.map_id]
theorem hexd_P (n : Nat) (h : n < 16) : hexd n = hexP n := by
  have : ∀ k : Fin 16, hexd k.1 = hexP k.1 := by decide
  exact this ⟨n, h⟩
theorem escL_P (c : UInt8) : escL c = escP c := by
  unfold escL escP
  rw [hexd_P _ (by have := c.toNat_lt; omega), hexd_P _ (by omega)]
theorem range_bytes (s : ByteArray) : ∀ n, n ≤ s.size → (List.range n).map (byteU s) = s.data.toList.take n
  | 0, _ => by simp
  | n + 1, h => by
    have h0 : n < s.size := h
    have h' : n < s.data.toList.length := by simpa using h0
    rw [List.range_succ, List.map_append, range_bytes s n (by omega), List.take_add_one, List.getElem?_eq_getElem h']
    simp only [List.map_cons, List.map_nil, Option.toList_some]
    unfold byteU
    rw [List.getD_eq_getElem?_getD, List.getElem?_eq_getElem h']
    rfl
theorem escA_P (s : ByteArray) : escA s s.size = s.data.toList.flatMap escP := by
  have h := range_bytes s s.size (Nat.le_refl _)
  rw [List.take_of_length_le (by simp)] at h
  unfold escA
  rw [← h, List.flatMap_map]
  congr 1
  funext i
  exact escL_P _
theorem wrL_P (x : Vl) : wrL x = wrP (toP x) := by
  unfold wrL wrP toP
  split
  · rfl
  · show [34] ++ escA x.2.2 x.2.2.size ++ [34] = _
    rw [escA_P]
    simp
theorem textL_P (l : List Vl) : textL l = textV rowP (l.map toP) := by
  unfold textL textV textP
  rw [rowP_map, List.map_map]
  split
  · congr 1
    apply List.map_congr_left
    intro x _
    exact wrL_P x
  · rfl
theorem rowP_nil : rowP [] = true := rfl
theorem rowP_ok (l : List VlP) (h : rowP l = true) : ∀ x ∈ l, VlOk x := by
  intro y hy
  have h2 : ∀ x ∈ l.map ofP, valB x = true := by
    unfold rowP rowB at h
    simp at h
    intro x hx
    obtain ⟨y, hy, rfl⟩ := List.mem_map.1 hx
    exact h.1 _ _ _ hy
  have hv := h2 (ofP y) (List.mem_map.2 ⟨y, hy, rfl⟩)
  obtain ⟨k, n, s⟩ := y
  refine ⟨?_⟩
  have hv : (if k = 1 then withinB n (-1000000000) 1000000000 && decide ((⟨s.toArray⟩ : ByteArray).size = 0) else decide (k = 2 ∧ n = 0 ∧ (⟨s.toArray⟩ : ByteArray).size ≤ 40)) = true := hv
  by_cases hk : k = 1
  · rw [if_pos hk] at hv
    refine .inl ⟨hk, ?_⟩
    unfold withinB at hv
    rw [Bool.and_eq_true, decide_eq_true_eq, decide_eq_true_eq] at hv
    refine ⟨?_, hv.1⟩
    have h0 : s.toArray.size = 0 := hv.2
    simpa using h0
  · rw [if_neg hk] at hv
    have hv := of_decide_eq_true hv
    exact .inr ⟨hv.1, hv.2.1⟩
end
section
open Go.RowKit
set_option linter.unusedVariables false
set_option linter.unusedSimpArgs false
set_option linter.unusedSectionVars false
set_option maxRecDepth 100000

theorem lower_any (c : Int) (w : World) : Calls Tryd.prog 141 #[.int .u8 c] w fun e w' => e = .returned (.int .u8 (bits .or .u8 c 32)) ∧ w' = w := by
  go_enter Tryd.func141, Tryd.ntmps141
  go_wp2
  go_ret
  exact ⟨rfl, rfl⟩
/-- what small digits spell at base 16, behind acc -/
def hexV : Nat → List UInt8 → Option Nat
  | acc, [] => some acc
  | acc, c :: r => match hexD c with
    | none => none
    | some d => hexV (16 * acc + d) r
def hexLow (c : Nat) : Int := bits .or .u8 (c : Int) 32
theorem hex_cls : ∀ c : Fin 256, (48 ≤ c.1 ∧ c.1 ≤ 57 ∧ hexD (UInt8.ofNat c.1) = some (c.1 - 48)) ∨ (¬ (48 ≤ c.1 ∧ c.1 ≤ 57) ∧ 97 ≤ hexLow c.1 ∧ hexLow c.1 ≤ 102 ∧ hexD (UInt8.ofNat c.1) = some ((hexLow c.1).toNat - 87)) ∨
    (¬ (48 ≤ c.1 ∧ c.1 ≤ 57) ∧ 103 ≤ hexLow c.1 ∧ hexLow c.1 ≤ 122 ∧ hexD (UInt8.ofNat c.1) = none) ∨ (¬ (48 ≤ c.1 ∧ c.1 ≤ 57) ∧ 0 ≤ hexLow c.1 ∧ hexLow c.1 ≤ 255 ∧ ¬ (97 ≤ hexLow c.1 ∧ hexLow c.1 ≤ 122) ∧ hexD (UInt8.ofNat c.1) = none) := by decide +kernel
def uintR (r : Option Nat) : Value := match r with
  | some n => .tuple #[.int .u64 n, .nilIface]
  | none => .tuple #[.int .u64 0, .iface 132 (.int .i64 2)]
set_option maxHeartbeats 8000000 in
theorem uint16_in (t : ByteArray) (h2 : t.size = 2) (w : World) :
    Calls Tryd.prog 130 #[.string t, .int .i64 16, .int .i64 8] w fun e w' => e = .returned (uintR (hexV 0 t.data.toList)) ∧ w' = Lib.bytesWorld w 5 t := by
  have hemp : t.toList.isEmpty = false := by
    rw [← decide_eq_emptyBytes]
    exact decide_eq_false (fun h => by rw [h] at h2; exact absurd h2 (by decide))
  have hcv := Lib.run_convert_string_bytes (P := Tryd.prog) w 9 108 5 t (u := .string) Tryd.underlying9 Tryd.underlying108 Tryd.underlying5
  have hB : ∀ j, j < t.size → (Lib.bytesWorld w 5 t).cell? ⟨w.heap.size, j, none⟩ = some (.int .u8 (t.data.toList.getD j 0).toNat) := fun j hj => Lib.bytesWorld_cell w 5 t j hj
  obtain ⟨W1, hW1⟩ : ∃ W1, W1 = Lib.bytesWorld w 5 t := ⟨_, rfl⟩
  rw [← hW1] at hcv hB ⊢
  clear hW1
  obtain ⟨bs, hL⟩ : ∃ bs, bs = t.data.toList := ⟨_, rfl⟩
  have hLn : bs.length = t.size := by rw [hL, Lib.size_eq]
  rw [← hL] at hB ⊢
  clear hL
  have hmv : IntKind.u64.wrap (IntKind.u64.wrap 256 - 1) = 255 := by
    rw [IntKind.wrap_u64, IntKind.wrap_u64]
    decide
  have HS := Lib.hid h2
  have hmax : t.size ≤ 1000 := by omega
  go_enter Tryd.func130, Tryd.ntmps130
  clear h2
  go_wp2
  go_loop [12, 13, 101] (fun vu vn vi => ∃ (k acc : Nat) (a : Int), vu = .bool false ∧ vn = .int .u64 a ∧ vi = .int .i64 k ∧ k ≤ t.size ∧ Hid (a = (acc : Int) ∧ acc < 16 ^ k ∧ hexV 0 bs = hexV acc (bs.drop k)))
    (fun _ _ vi => t.size - (intOf vi).toNat)
  case atStart => exact ⟨0, 0, 0, rfl, rfl, rfl, by omega, rfl, by decide, rfl⟩
  case round =>
    obtain ⟨k, acc, a, rfl, rfl, rfl, hk, hh⟩ := hrel
    obtain ⟨ha, hacc, hdec⟩ := hh.out
    clear hh
    by_cases hkn : k < t.size
    · have hc := hB k hkn
      have hdrop : bs.drop k = bs[k]'(by omega) :: bs.drop (k + 1) := List.drop_eq_getElem_cons (by omega)
      have hget : bs.getD k 0 = bs[k]'(by omega) := by simp [List.getD, List.getElem?_eq_getElem (show k < bs.length by omega)]
      rw [hdrop] at hdec
      rw [hget] at hc
      generalize bs[k]'(by omega) = c at hc hdec
      have hc256 : c.toNat < 256 := c.toNat_lt
      have ha16 : acc < 16 := by
        have h2 := HS.out
        have : k = 0 ∨ k = 1 := by omega
        rcases this with rfl | rfl <;> simp at hacc <;> omega
      have a0 : 0 ≤ a := by omega
      have a1 : a < 16 := by omega
      have hpow : ∀ d : Nat, d < 16 → 16 * acc + d < 16 ^ (k + 1) := fun d hd => by rw [Nat.pow_succ]; omega
      clear hB hdrop hget
      have hcl := hex_cls ⟨c.toNat, hc256⟩
      simp only [UInt8.ofNat_toNat] at hcl
      rcases hcl with ⟨h1, h2, h3⟩ | ⟨h0, h1, h2, h3⟩ | ⟨h0, h1, h2, h3⟩ | ⟨h0, h1, h1', h2, h3⟩
      · have n95 : ¬ (c.toNat : Int) = 95 := by omega
        have hF : hexV acc (c :: bs.drop (k + 1)) = hexV (16 * acc + (c.toNat - 48)) (bs.drop (k + 1)) := by simp [hexV, h3]
        have HN : Hid (a * 16 + ((c.toNat : Int) - 48) = ((16 * acc + (c.toNat - 48) : Nat) : Int) ∧ 16 * acc + (c.toNat - 48) < 16 ^ (k + 1) ∧ hexV 0 bs = hexV (16 * acc + (c.toNat - 48)) (bs.drop (k + 1))) := Lib.hid ⟨by omega, hpow _ (by omega), hdec.trans hF⟩
        clear hdec hF h3 hpow hacc ha ha16
        go_wp2
        refine ⟨⟨k + 1, 16 * acc + (c.toNat - 48), a * 16 + ((c.toNat : Int) - 48), rfl, (by first | rfl | (congr 1; omega)), (by first | rfl | (congr 1; omega)), by omega, HN⟩, by simp [intOf]; omega⟩
      · have n95 : ¬ (c.toNat : Int) = 95 := fun e => by
          have e : c.toNat = 95 := by omega
          rw [e] at h2
          exact absurd h2 (by decide +kernel)
        have hF : hexV acc (c :: bs.drop (k + 1)) = hexV (16 * acc + ((hexLow c.toNat).toNat - 87)) (bs.drop (k + 1)) := by simp [hexV, h3]
        have HN : Hid (a * 16 + (hexLow c.toNat - 97 + 10) = ((16 * acc + ((hexLow c.toNat).toNat - 87) : Nat) : Int) ∧ 16 * acc + ((hexLow c.toNat).toNat - 87) < 16 ^ (k + 1) ∧ hexV 0 bs = hexV (16 * acc + ((hexLow c.toNat).toNat - 87)) (bs.drop (k + 1))) := Lib.hid ⟨by omega, hpow _ (by omega), hdec.trans hF⟩
        have hlow := fun W => lower_any (c.toNat : Int) W
        rw [show bits .or .u8 (c.toNat : Int) 32 = hexLow c.toNat from rfl] at hlow
        generalize hexLow c.toNat = L at *
        clear hdec hF h3 hpow hacc ha ha16
        go_wp2_with (go_at_call 141; refine (hlow _).mono ?_; rintro e w' ⟨rfl, rfl⟩)
        all_goals refine ⟨⟨k + 1, 16 * acc + (L.toNat - 87), a * 16 + (L - 97 + 10), rfl, (by first | rfl | (congr 1; omega)), (by first | rfl | (congr 1; omega)), by omega, HN⟩, by simp [intOf]; omega⟩
      · have n95 : ¬ (c.toNat : Int) = 95 := fun e => by
          have e : c.toNat = 95 := by omega
          rw [e] at h2
          exact absurd h2 (by decide +kernel)
        have hF : hexV acc (c :: bs.drop (k + 1)) = none := by simp [hexV, h3]
        rw [hF] at hdec
        have hlow := fun W => lower_any (c.toNat : Int) W
        rw [show bits .or .u8 (c.toNat : Int) 32 = hexLow c.toNat from rfl] at hlow
        generalize hexLow c.toNat = L at *
        clear hF h3 hpow hacc ha ha16
        have HD := Lib.hid hdec
        clear hdec
        go_wp2_with (go_at_call 141; refine (hlow _).mono ?_; rintro e w' ⟨rfl, rfl⟩)
        all_goals go_ret2
        all_goals exact ⟨by rw [HD.out]; rfl, rfl⟩
      · have hF : hexV acc (c :: bs.drop (k + 1)) = none := by simp [hexV, h3]
        by_cases e95 : c.toNat = 95
        · have hlow := fun W => lower_any 95 W
          rw [show bits .or .u8 95 32 = 127 from by decide +kernel] at hlow
          rw [e95] at hc
          rw [hF] at hdec
          clear hF h0 h1 h1' h2 h3 hpow hacc ha ha16 hc256 e95
          have HD := Lib.hid hdec
          clear hdec
          go_wp2_with (go_at_call 141; refine (hlow _).mono ?_; rintro e w' ⟨rfl, rfl⟩)
          all_goals go_ret2
          all_goals exact ⟨by rw [HD.out]; rfl, rfl⟩
        · have n95 : ¬ (c.toNat : Int) = 95 := by omega
          by_cases h4 : hexLow c.toNat < 97
          · have h4' := h4
            clear h2
            rw [hF] at hdec
            have hlow := fun W => lower_any (c.toNat : Int) W
            rw [show bits .or .u8 (c.toNat : Int) 32 = hexLow c.toNat from rfl] at hlow
            generalize hexLow c.toNat = L at *
            clear hF h3 hpow hacc ha ha16
            have HD := Lib.hid hdec
            clear hdec
            go_wp2_with (go_at_call 141; refine (hlow _).mono ?_; rintro e w' ⟨rfl, rfl⟩)
            all_goals go_ret2
            all_goals exact ⟨by rw [HD.out]; rfl, rfl⟩
          · have h4' : 122 < hexLow c.toNat := by omega
            clear h2 h4
            rw [hF] at hdec
            have hlow := fun W => lower_any (c.toNat : Int) W
            rw [show bits .or .u8 (c.toNat : Int) 32 = hexLow c.toNat from rfl] at hlow
            generalize hexLow c.toNat = L at *
            clear hF h3 hpow hacc ha ha16
            have HD := Lib.hid hdec
            clear hdec
            go_wp2_with (go_at_call 141; refine (hlow _).mono ?_; rintro e w' ⟨rfl, rfl⟩)
            all_goals go_ret2
            all_goals exact ⟨by rw [HD.out]; rfl, rfl⟩
    · have hkk : k = t.size := by omega
      subst hkk
      have hF : hexV acc (bs.drop t.size) = some acc := by rw [List.drop_eq_nil_of_le (by omega)]; rfl
      rw [hF] at hdec
      subst ha
      have HD := Lib.hid hdec
      clear hdec hF hacc
      go_wp2
      go_ret2
      exact ⟨by rw [HD.out]; rfl, rfl⟩
/-- two bytes at base 16 -/
theorem hexV_two (a b : UInt8) : hexV 0 [a, b] = match hexD a, hexD b with
    | some x, some y => some (16 * x + y)
    | _, _ => none := by
  unfold hexV
  cases hexD a with
  | none => rfl
  | some x =>
    unfold hexV
    cases hexD b with
    | none => simp
    | some y => simp [hexV]
theorem hexV_lt (a b : UInt8) (n : Nat) (h : hexV 0 [a, b] = some n) : n < 256 := by
  have key : ∀ c k, hexD c = some k → k < 16 := by
    intro c k hk
    unfold hexD at hk
    split at hk
    · injection hk with hk; omega
    · split at hk
      · injection hk with hk; omega
      · split at hk
        · injection hk with hk; omega
        · cases hk
  rw [hexV_two] at h
  cases ha : hexD a with
  | none => rw [ha] at h; cases h
  | some x =>
    cases hb : hexD b with
    | none => rw [ha, hb] at h; cases h
    | some y =>
      rw [ha, hb] at h
      injection h with h
      have := key _ _ ha
      have := key _ _ hb
      omega
theorem uint16_ok (t : ByteArray) (h2 : t.size = 2) (n : Nat) (h : hexV 0 t.data.toList = some n) (w : World) :
    Calls Tryd.prog 115 #[.string t, .int .i64 16, .int .i64 8] w fun e w' => e = .returned (.tuple #[.int .u64 n, .nilIface]) ∧ Ext w w' := by
  have hI := uint16_in t h2 w
  rw [h] at hI
  have hI : Calls Tryd.prog 130 #[.string t, .int .i64 16, .int .i64 8] w fun e w' => e = .returned (.tuple #[.int .u64 n, .nilIface]) ∧ Ext w w' := hI.mono fun e w' ⟨he, hw⟩ => ⟨he, hw ▸ Lib.bytesWorld_below _ _ _⟩
  clear h h2
  go_enter Tryd.func115, Tryd.ntmps115
  go_wp2_with (go_at_call 130; refine hI.mono ?_; rintro e w1 ⟨rfl, hx⟩)
  go_ret2
  exact ⟨rfl, hx⟩
theorem uint16_no (t : ByteArray) (h2 : t.size = 2) (h : hexV 0 t.data.toList = none) (w : World) (hs : ∃ tp p, w.var? Tryd.prog "strconv.ErrSyntax" = some #[.iface tp p]) :
    Calls Tryd.prog 115 #[.string t, .int .i64 16, .int .i64 8] w fun e w' => ∃ N, e = .returned (.tuple #[.int .u64 0, .iface 135 (.pointer (some ⟨N, 0, none⟩))]) ∧ Ext w w' := by
  obtain ⟨tp, p, hv⟩ := hs
  have hc := World.var?_cell (show Tryd.prog.globalNamed "strconv.ErrSyntax" = some 0 by kernel_rfl) hv 0
  have hc : w.cell? ⟨0, 0, none⟩ = some (.iface tp p) := by simpa using hc
  have hI := uint16_in t h2 w
  rw [h] at hI
  have hI : Calls Tryd.prog 130 #[.string t, .int .i64 16, .int .i64 8] w fun e w' => e = .returned (.tuple #[.int .u64 0, .iface 132 (.int .i64 2)]) ∧ Ext w w' := hI.mono fun e w' ⟨he, hw⟩ => ⟨he, hw ▸ Lib.bytesWorld_below _ _ _⟩
  have hT := fun W (hx : Ext w W) => Tryd.strconv_toError_syntax ⟨#[80, 97, 114, 115, 101, 85, 105, 110, 116]⟩ t 16 8 (.iface tp p) W (by omega) (hx.cell hc) (.inr ⟨_, _, rfl⟩)
  clear h h2 hv hc
  go_enter Tryd.func115, Tryd.ntmps115
  go_wp2_with (first
    | (go_at_call 130; refine hI.mono ?_; rintro e w1 ⟨rfl, hx⟩)
    | (go_at_call 111; refine (hT _ hx).mono ?_; rintro e w2 ⟨N, rfl, -, -, hx2⟩))
  go_ret2
  exact ⟨N, rfl, hx.trans hx2⟩
end
section
open Go.RowKit
set_option linter.unusedVariables false
set_option linter.unusedSimpArgs false
set_option linter.unusedSectionVars false
set_option maxRecDepth 100000
attribute [local go_sem] Oper.semAt_some

/-- block B holds the values C, all of them free to be written -/
def BoxN (W : World) (B : Nat) (t : TypeId) (C : Array Value) : Prop := W.heap[B]? = some (.cells C t (0, 0))
theorem BoxN.lt {W : World} {B : Nat} {t : TypeId} {C : Array Value} (h : BoxN W B t C) : B < W.heap.size := (Array.getElem?_eq_some_iff.1 h).1
theorem BoxN.cell {W : World} {B : Nat} {t : TypeId} {C : Array Value} (h : BoxN W B t C) {i : Nat} {v : Value} (hv : C[i]? = some v) : W.cell? ⟨B, i, none⟩ = some v := by
  unfold World.cell?
  simp only [show W.heap[B]? = _ from h]
  exact hv
theorem BoxN.frozen {W : World} {B : Nat} {t : TypeId} {C : Array Value} (h : BoxN W B t C) (i : Nat) : W.frozen? ⟨B, i, none⟩ = false := by
  unfold World.frozen?
  simp only [show W.heap[B]? = _ from h]
  simp
theorem BoxN.new (W : World) (t : TypeId) (C : Array Value) : BoxN (W.alloc (.cells C t)) W.heap.size t C := World.alloc_heap_new W _
theorem BoxN.ext {W W' : World} {B : Nat} {t : TypeId} {C : Array Value} (h : BoxN W B t C) (hx : Ext W W') : BoxN W' B t C := hx.heap h
theorem BoxN.set {W : World} {B : Nat} {t : TypeId} {C : Array Value} (h : BoxN W B t C) (i : Nat) (v : Value) : BoxN (W.setCell ⟨B, i, none⟩ v) B t (C.setIfInBounds i v) := by
  obtain ⟨hlt, hk⟩ := Array.getElem?_eq_some_iff.1 h
  show (W.heap.modify B _)[B]? = _
  rw [Array.getElem?_eq_getElem (by rw [Array.size_modify]; exact hlt), Array.getElem_modify_self, hk]
  rfl
/-- block R is a reader of the text s that stands at n -/
def Rdr (w : World) (R : Nat) (s : ByteArray) (n : Int) : Prop := BoxN w R 86 #[.string s, .int .i64 n]
theorem Rdr.s {w : World} {R : Nat} {s : ByteArray} {n : Int} (h : Rdr w R s n) : w.cell? ⟨R, 0, none⟩ = some (.string s) := BoxN.cell h rfl
theorem Rdr.n {w : World} {R : Nat} {s : ByteArray} {n : Int} (h : Rdr w R s n) : w.cell? ⟨R, 1, none⟩ = some (.int .i64 n) := BoxN.cell h rfl
theorem Rdr.free {w : World} {R : Nat} {s : ByteArray} {n : Int} (h : Rdr w R s n) : w.frozen? ⟨R, 1, none⟩ = false := BoxN.frozen h 1
theorem Rdr.set {w : World} {R : Nat} {s : ByteArray} {n : Int} (h : Rdr w R s n) (m : Int) : Rdr (w.setCell ⟨R, 1, none⟩ (.int .i64 m)) R s m := BoxN.set h 1 _
theorem Rdr.ext {w w' : World} {R : Nat} {s : ByteArray} {n : Int} (h : Rdr w R s n) (hx : Ext w w') : Rdr w' R s n := BoxN.ext h hx
theorem Rdr.below {w w' : World} {R B : Nat} {s : ByteArray} {n : Int} (h : Rdr w R s n) (hx : Below B w w') (hR : R < B) : Rdr w' R s n := by
  unfold Rdr BoxN at *
  rw [hx.block R hR]; exact h
theorem Rdr.lt {w : World} {R : Nat} {s : ByteArray} {n : Int} (h : Rdr w R s n) : R < w.heap.size := BoxN.lt h
theorem next_any (R : Nat) (s : ByteArray) (n : Nat) (w : World) (h : Rdr w R s n) (hn : n ≤ 140737488355328) :
    Calls Tryd.prog 80 #[.pointer (some ⟨R, 0, none⟩)] w fun e w' => e = .returned (.int .u8 (byteN s n)) ∧ ∃ m, w' = w.drewN m := by
  have h0 := h.s
  have h1 := h.n
  by_cases hlt : n < s.size
  · have c1 : (n : Int) < s.size := by omega
    have hi := fun w => str_index s n hlt w
    go_enter Tryd.func80, Tryd.ntmps80
    go_wp2
    go_quiet (fail)
    go_wp2
    go_quiet (fail)
    go_wp2
    go_ret
    exact ⟨rfl, _, World.drewN_drewN _ _ _⟩
  · have c1 : decide ((n : Int) < s.size) = false := decide_eq_false (by omega)
    have hb : byteN s n = 0 := by unfold byteN; rw [dif_neg hlt]
    go_enter Tryd.func80, Tryd.ntmps80
    go_wp2
    go_quiet (fail)
    go_wp2
    go_ret
    exact ⟨by rw [hb]; rfl, _, rfl⟩
end
section
open Go.RowKit
set_option linter.unusedVariables false
set_option linter.unusedSimpArgs false
set_option linter.unusedSectionVars false
set_option maxRecDepth 20000
attribute [local go_sem] Oper.semAt_some

/-- the first item of a name -/
def idxF : List It → ByteArray → Int
  | [], _ => -1
  | x :: l, s => if x.1 = s then 0 else if idxF l s < 0 then -1 else idxF l s + 1
theorem idxF_ge : ∀ (l : List It) (s : ByteArray), -1 ≤ idxF l s ∧ idxF l s < l.length
  | [], _ => by simp [idxF]
  | x :: l, s => by
    have h := idxF_ge l s
    simp only [idxF, List.length_cons]
    split
    · omega
    · split <;> omega
theorem idxF_at : ∀ (l : List It) (s : ByteArray) (k : Nat) (x : It), l[k]? = some x → (∀ (j : Nat) (y : It), j < k → l[j]? = some y → y.1 ≠ s) → x.1 = s → idxF l s = k
  | [], s, k, x, h, _, _ => by simp at h
  | y :: l, s, 0, x, h, _, hs => by
    simp at h
    subst h
    simp [idxF, hs]
  | y :: l, s, k + 1, x, h, hn, hs => by
    have h0 := hn 0 y (by omega) (by simp)
    have ih := idxF_at l s k x (by simpa using h) (fun j z hj hz => hn (j + 1) z (by omega) (by simpa using hz)) hs
    simp only [idxF, if_neg h0, ih]
    rw [if_neg (by omega)]
    omega
theorem idxF_no : ∀ (l : List It) (s : ByteArray), (∀ (j : Nat) (y : It), l[j]? = some y → y.1 ≠ s) → idxF l s = -1
  | [], s, _ => rfl
  | y :: l, s, hn => by
    have h0 := hn 0 y (by simp)
    have ih := idxF_no l s (fun j z hz => hn (j + 1) z (by simpa using hz))
    simp [idxF, if_neg h0, ih]
theorem rindex_any (P : Option Addr) (cap : Nat) (l : List It) (s : ByteArray) (w : World) (h : SlT w P cap l) :
    Calls Tryd.prog 72 #[.slice P l.length cap, .string s] w fun e w' => e = .returned (.int .i64 (idxF l s)) ∧ w' = w := by
  have hlen := h.len
  go_enter Tryd.func72, Tryd.ntmps72
  go_wp2
  go_loopw [5] (fun i wr => ∃ k : Nat, k ≤ l.length ∧ i = .int .i64 k ∧ (∀ (j : Nat) (y : It), j < k → l[j]? = some y → y.1 ≠ s) ∧ wr = w) (fun i _ => l.length - (intOf i).toNat)
  case atStart => exact ⟨0, by omega, rfl, by intro j y hj; omega, rfl⟩
  case round =>
    obtain ⟨k, hk, rfl, hall, rfl⟩ := hrel
    by_cases hlt : k < l.length
    · obtain ⟨b, off, hP, g0, _⟩ := h.itemAt k hlt
      subst hP
      have c1 : (k : Int) < l.length := by omega
      have hs := nthT_some hlt
      have d1 : IntKind.i64.wrap ((k : Int) + 1) = (k : Int) + 1 := IntWalk.i64_in _ ⟨by omega, by omega⟩
      by_cases he : (nthT l k).1 = s
      · have Hn : Hid (idxF l s = k) := Lib.hid (idxF_at l s k _ hs hall he)
        rw [he] at g0
        clear hall hs he
        go_wp2
        go_ret
        exact ⟨by rw [Hn.out]; rfl, rfl⟩
      · have Hy : Hid (∀ (j : Nat) (y : It), j < k + 1 → l[j]? = some y → y.1 ≠ s) := Lib.hid (fun j y hj hy => by
          by_cases hjk : j = k
          · subst hjk; rw [hs] at hy; injection hy with hy; subst hy; exact he
          · exact hall j y (by omega) hy)
        have hl : ¬ (nthT l k).1.toList = s.toList := fun e => he (ByteArray.ext (Array.ext' (by rw [← Lib.toList_data, ← Lib.toList_data]; exact e)))
        have hl1 : decide ((nthT l k).1.toList = s.toList) = false := decide_eq_false hl
        have hl2 : ((nthT l k).1.toList == s.toList) = false := by simpa using hl
        have hl3 : decide ((nthT l k).1 = s) = false := decide_eq_false he
        generalize (nthT l k).1 = t at *
        clear hall hs
        go_wp2
        go_roundw
        case rel => exact ⟨k + 1, by omega, by go_num, Hy.out, by first | trivial | rfl⟩
        case measure => simp [intOf]; omega
    · obtain rfl : k = l.length := by omega
      have Hn : Hid (idxF l s = -1) := Lib.hid (idxF_no l s (fun j y hy => hall j y (List.getElem?_eq_some_iff.1 hy).1 hy))
      clear hall
      go_wp2
      go_ret
      exact ⟨by rw [Hn.out]; rfl, rfl⟩
end
section
open Go.RowKit
set_option linter.unusedVariables false
set_option linter.unusedSimpArgs false
set_option linter.unusedSectionVars false
set_option maxRecDepth 20000
attribute [local go_sem] Oper.semAt_some

def goodT (l : List It) (i : Nat) : Prop := itemB (nthT l i) = true ∧ idxF l (nthT l i).1 = i
instance (l : List It) (i : Nat) : Decidable (goodT l i) := by unfold goodT; infer_instance
def knownB (l : List It) : Bool := (List.range l.length).all (fun i => decide (goodT l i)) && decide (l.length ≤ 8)
def itemsB (l : List It) : Bool := decide (0 < l.length) && knownB l
theorem knownB_yes {l : List It} (h : ∀ i, i < l.length → goodT l i) : knownB l = decide (l.length ≤ 8) := by
  unfold knownB
  rw [show (List.range l.length).all (fun i => decide (goodT l i)) = true from by simpa using h]
  rfl
theorem knownB_no {l : List It} {k : Nat} (hk : k < l.length) (h : ¬ goodT l k) : knownB l = false := by
  unfold knownB
  rw [show (List.range l.length).all (fun i => decide (goodT l i)) = false from by
    rw [List.all_eq_false]
    exact ⟨k, List.mem_range.2 hk, by simpa using h⟩]
  rfl
theorem rknown_any (P : Option Addr) (cap : Nat) (l : List It) (w : World) (h : SlT w P cap l) :
    Calls Tryd.prog 60 #[.slice P l.length cap] w fun e w' => e = .returned (.bool (knownB l)) ∧ Ext w w' := by
  have hlen := h.len
  go_enter Tryd.func60, Tryd.ntmps60
  go_wp2
  go_loopw [3] (fun i wr => ∃ k : Nat, k ≤ l.length ∧ i = .int .i64 k ∧ (∀ j : Nat, j < k → goodT l j) ∧ Ext w wr) (fun i _ => l.length - (intOf i).toNat)
  case atStart => exact ⟨0, by omega, rfl, by intro j hj; omega, Ext.refl w⟩
  case round =>
    obtain ⟨k, hk, rfl, hall, hx⟩ := hrel
    by_cases hlt : k < l.length
    · obtain ⟨b, off, hP, g0, g1, g2, g3, g4⟩ := h.itemAt k hlt
      have hR := fun s W hW => rindex_any P cap l s W hW
      subst hP
      have g0 := hx.cell g0
      have g1 := hx.cell g1
      have g2 := hx.cell g2
      have g3 := hx.cell g3
      have g4 := hx.cell g4
      have c1 : (k : Int) < l.length := by omega
      have d1 : IntKind.i64.wrap ((k : Int) + 1) = (k : Int) + 1 := IntWalk.i64_in _ ⟨by omega, by omega⟩
      have hV := fun W => ritem_any (nthT l k) W
      unfold It.v at hV
      cases hv : itemB (nthT l k) with
      | false =>
        have Hn : Hid (knownB l = false) := Lib.hid (knownB_no hlt (fun hg => by rw [hg.1] at hv; cases hv))
        simp only [hv] at hV
        generalize nthT l k = x at *
        clear hall hv
        go_wp2_with (go_at_call 15; refine (hV _).mono ?_; rintro e w1 ⟨rfl, hx1⟩)
        go_ret
        exact ⟨by rw [Hn.out]; rfl, hx.trans hx1⟩
      | true =>
        simp only [hv] at hV
        by_cases hi : idxF l (nthT l k).1 = k
        · have Hy : Hid (∀ j : Nat, j < k + 1 → goodT l j) := Lib.hid (fun j hj => by
            by_cases hjk : j = k
            · subst hjk; exact ⟨hv, hi⟩
            · exact hall j (by omega))
          have m0 : ((k : Int) != (k : Int)) = false := by simp
          have m1 : decide ((k : Int) = (k : Int)) = true := by simp
          have HI := Lib.hid hi
          generalize nthT l k = x at *
          clear hall hv hi
          go_wp2_with (first
            | (go_at_call 15; refine (hV _).mono ?_; rintro e w1 ⟨rfl, hx1⟩; replace g0 := hx1.cell g0; have hx2 := hx.trans hx1)
            | (go_at_call 72; refine (hR _ _ (by exact h.ext hx2)).mono ?_; rintro e w2 ⟨rfl, rfl⟩; rw [HI.out]))
          go_roundw
          case rel => exact ⟨k + 1, by omega, by go_num, Hy.out, hx2⟩
          case measure => simp [intOf]; omega
        · have Hn : Hid (knownB l = false) := Lib.hid (knownB_no hlt (fun hg => hi hg.2))
          have hi2 : decide (idxF l (nthT l k).1 = (k : Int)) = false := decide_eq_false hi
          have hi3 : (idxF l (nthT l k).1 == (k : Int)) = false := by simpa using hi
          have hR1 := fun W hW => hR (nthT l k).1 W hW
          clear hR
          have hi4 : (idxF l (nthT l k).1 != (k : Int)) = true := by simpa using hi
          generalize nthT l k = x at *
          clear hall hv hi
          generalize idxF l x.1 = z at *
          go_wp2_with (first
            | (go_at_call 15; refine (hV _).mono ?_; rintro e w1 ⟨rfl, hx1⟩; replace g0 := hx1.cell g0; have hx2 := hx.trans hx1)
            | (go_at_call 72; refine (hR1 _ (by exact h.ext hx2)).mono ?_; rintro e w2 ⟨rfl, rfl⟩))
          go_ret
          exact ⟨by rw [Hn.out]; rfl, hx2⟩
    · obtain rfl : k = l.length := by omega
      have Hn := Lib.hid (knownB_yes hall)
      clear hall
      by_cases h8 : l.length ≤ 8
      · have h8' : (l.length : Int) ≤ 8 := by omega
        go_wp2
        go_ret
        exact ⟨by rw [Hn.out, decide_eq_true h8]; first | rfl | (simp; done) | (simp; omega), hx⟩
      · have h8' : decide ((l.length : Int) ≤ 8) = false := decide_eq_false (by omega)
        have H8 := Lib.hid h8
        clear h8
        go_wp2
        go_ret
        exact ⟨by rw [Hn.out, decide_eq_false H8.out]; first | rfl | (simp; done) | (simp; omega), hx⟩
theorem ritems_any (P : Option Addr) (cap : Nat) (l : List It) (w : World) (h : SlT w P cap l) :
    Calls Tryd.prog 21 #[.slice P l.length cap] w fun e w' => e = .returned (.bool (itemsB l)) ∧ Ext w w' := by
  have hK := rknown_any P cap l w h
  have hlen := h.len
  by_cases h0 : 0 < l.length
  · have h0' : (0 : Int) < l.length := by omega
    have Hn : Hid (itemsB l = knownB l) := Lib.hid (by unfold itemsB; rw [decide_eq_true h0, Bool.true_and])
    generalize knownB l = r at *
    go_enter Tryd.func21, Tryd.ntmps21
    go_wp2_with (go_at_call 60; refine hK.mono ?_; rintro e w1 ⟨rfl, hx1⟩)
    go_ret
    exact ⟨by rw [Hn.out]; first | rfl | (simp; done), hx1⟩
  · have Hn : Hid (itemsB l = false) := Lib.hid (by unfold itemsB; rw [decide_eq_false h0, Bool.false_and])
    have h0' : decide ((0 : Int) < l.length) = false := decide_eq_false (by omega)
    have h0'' : (l.length : Int) ≤ 0 := by omega
    clear h0
    go_enter Tryd.func21, Tryd.ntmps21
    go_wp2_with (go_at_call 60; refine hK.mono ?_; rintro e w1 ⟨rfl, hx1⟩)
    go_ret
    exact ⟨by rw [Hn.out]; first | rfl | (simp; done) | (simp; omega), by first | exact Ext.refl _ | exact hx1⟩
end
end Go.Proofs.YtepgpejdnlejnaaDoor

/- ItQ; ItW; ItXD (merged by group.py) -/
import Derived.Test.YtepgpejdnlejnaaDoorQ07
import Derived.Deep.RegionHeld3
import Derived.Test.YtepgpejdnlejnaaDoorQ06
namespace Go.Proofs.YtepgpejdnlejnaaDoor
section
open Go.RowKit
set_option linter.unusedVariables false
set_option linter.unusedSimpArgs false
set_option linter.unusedSectionVars false
set_option maxRecDepth 20000
attribute [local go_sem] Oper.semAt_some

theorem rw_one {w w1 : World} {Q : Option Addr} {c : Nat} {r : List Vl} (h : SlV w Q c r) {t : TypeId} (hx : Ext (w.alloc (.cells #[.slice Q r.length c] t)) w1) :
    SlG Rw.cells w1 (some ⟨w.heap.size, 0, none⟩) 1 [(Q, c, r)] ∧ ∀ x ∈ [(Q, c, r)], SlV w1 x.1 x.2.1 x.2.2 := by
  refine ⟨⟨fun i x hi => ⟨_, _, rfl, fun j v hj => ?_⟩, by simp, by omega⟩, fun x hx2 => ?_⟩
  · cases i with
    | zero =>
      simp at hi
      subst hi
      cases j with
      | zero => simp [Rw.cells] at hj; subst hj; exact box1 hx 0 _ rfl
      | succ j => simp [Rw.cells] at hj
    | succ i => simp at hi
  · simp at hx2
    subst hx2
    exact h.ext (((Ext.refl w).alloc _).trans hx)

set_option maxHeartbeats 8000000 in
theorem valid_law (P Q : Option Addr) (cap cap2 : Nat) (l : List It) (r : List Vl) (s : ByteArray) (w : World) (aw : ∀ W, Ext w W → Calls Tryd.prog 11 #[] W fun e w' => e = .returned (.bool true) ∧ Ext W w') (h : SlT w P cap l) (h2 : SlV w Q cap2 r) :
    Calls Tryd.prog 3 #[.slice P l.length cap, .slice Q r.length cap2, .string s] w fun e w' => e = .returned (.bool true) ∧ Ext w w' := by
  have hlen := h.len
  have hlen2 := h2.len
  have hI := fun W hx => litems_any P cap l W (h.ext hx)
  have hR := fun (t : TypeId) (W : World) (hx : Ext (w.alloc (.cells #[.slice Q r.length cap2] t)) W) => lrows_any (some ⟨w.heap.size, 0, none⟩) 1 [(Q, cap2, r)] W (rw_one h2 hx).1 (rw_one h2 hx).2
  go_enter Tryd.func3, Tryd.ntmps3
  go_wp2_with (first
    | (go_at_call 9; refine (hI _ (Ext.refl _)).mono ?_; rintro e w1 ⟨⟨b1, rfl⟩, rfl⟩; cases b1)
    | (go_at_call 10; refine (hR _ _ (Ext.refl _)).mono ?_; rintro e w1 ⟨⟨b2, rfl⟩, rfl⟩; cases b2)
    | (go_at_call 11; refine (aw _ (by first | exact Ext.refl _ | exact (Ext.refl _).alloc _)).mono ?_; rintro e w7 ⟨rfl, hx7⟩))
  all_goals first
    | (go_ret; exact ⟨rfl, hx7⟩)
    | (go_ret; exact ⟨rfl, ((Ext.refl _).alloc _).trans hx7⟩)
    | skip
  have hx0 := (Ext.refl w1).alloc (.cells #[.slice Q r.length cap2] 23)
  go_loopw [7] (fun i wr => ∃ k : Nat, k ≤ r.length ∧ i = .int .i64 k ∧ Ext w1 wr) (fun i _ => r.length - (intOf i).toNat)
  case atStart => exact ⟨0, by omega, rfl, hx0⟩
  case round =>
    obtain ⟨k, hk, rfl, hx⟩ := hrel
    by_cases hlt : k < r.length
    · obtain ⟨b2, off2, hQ, q0, q1, q2⟩ := h2.valAt k hlt
      subst hQ
      have q0 := hx.cell q0
      have q1 := hx.cell q1
      have q2 := hx.cell q2
      have c1 : (k : Int) < r.length := by omega
      have d1 : IntKind.i64.wrap ((k : Int) + 1) = (k : Int) + 1 := IntWalk.i64_in _ ⟨by omega, by omega⟩
      have hV := fun W => value_any (nthV r k) W
      have hRV := fun W => rvalue_any (nthV r k) W
      unfold Vl.v at hV hRV
      generalize valB (nthV r k) = z at *
      generalize nthV r k = y at *
      go_wp2
      go_region_held3 (fun w' => w'.cell? ⟨b2, off2 + k * 3, none⟩ = some (.int .i64 y.1) ∧ w'.cell? ⟨b2, off2 + k * 3 + 1, none⟩ = some (.int .i64 y.2.1) ∧ w'.cell? ⟨b2, off2 + k * 3 + 2, none⟩ = some (.string y.2.2)) (first | go_keep | ((try dsimp only); (repeat' apply And.intro); all_goals first | go_keep | (refine Ext.cell ?_ q0; (repeat (first | exact Ext.refl _ | assumption | refine Ext.drew ?_ | refine Ext.drewN ?_ _ | refine Ext.alloc ?_ _ | refine Ext.trans ?_ x6 | refine Ext.trans ?_ x5 | refine Ext.trans ?_ x4 | refine Ext.trans ?_ x3)); done) | (refine Ext.cell ?_ q1; (repeat (first | exact Ext.refl _ | assumption | refine Ext.drew ?_ | refine Ext.drewN ?_ _ | refine Ext.alloc ?_ _ | refine Ext.trans ?_ x6 | refine Ext.trans ?_ x5 | refine Ext.trans ?_ x4 | refine Ext.trans ?_ x3)); done) | (refine Ext.cell ?_ q2; (repeat (first | exact Ext.refl _ | assumption | refine Ext.drew ?_ | refine Ext.drewN ?_ _ | refine Ext.alloc ?_ _ | refine Ext.trans ?_ x6 | refine Ext.trans ?_ x5 | refine Ext.trans ?_ x4 | refine Ext.trans ?_ x3)); done)))
        (first
          | (go_at_call 12; refine (hV _).mono ?_; rintro e w3 ⟨rfl, x3⟩)
          | (go_at_call 13; refine (hRV _).mono ?_; rintro e w4 ⟨rfl, x4⟩)
          | fail)
      go_wp2
      go_roundw
      case rel => exact ⟨k + 1, by omega, by go_num, by (repeat (first | exact Ext.refl _ | assumption | refine Ext.drew ?_ | refine Ext.drewN ?_ _ | refine Ext.alloc ?_ _ | refine Ext.trans ?_ x6 | refine Ext.trans ?_ x5 | refine Ext.trans ?_ x4 | refine Ext.trans ?_ x3)); done⟩
      case measure => simp [intOf]; omega
    · obtain rfl : k = r.length := by omega
      clear hx0
      go_wp2
      go_loopw [8] (fun i wr2 => ∃ k : Nat, k ≤ l.length ∧ i = .int .i64 k ∧ Ext w1 wr2) (fun i _ => l.length - (intOf i).toNat)
      case atStart => exact ⟨0, by omega, rfl, hx⟩
      case round =>
        clear hx
        obtain ⟨k, hk, rfl, hx⟩ := hrel
        by_cases hlt : k < l.length
        · obtain ⟨b, off, hP, g0, g1, g2, g3, g4⟩ := h.itemAt k hlt
          subst hP
          have g0 := hx.cell g0
          have g1 := hx.cell g1
          have g2 := hx.cell g2
          have g3 := hx.cell g3
          have g4 := hx.cell g4
          have c1 : (k : Int) < l.length := by omega
          have d1 : IntKind.i64.wrap ((k : Int) + 1) = (k : Int) + 1 := IntWalk.i64_in _ ⟨by omega, by omega⟩
          have hV := fun W => item_any (nthT l k) W
          have hRV := fun W => ritem_any (nthT l k) W
          have hN := fun W => name_any (nthT l k).1 W
          have hRN := fun W => rname_any (nthT l k).1 W
          unfold It.v at hV hRV
          generalize itemB (nthT l k) = z at *
          generalize nthT l k = x at *
          generalize nameF x.1 = z2 at *
          go_wp2
          go_region_held3 (fun w' => w'.cell? ⟨b, off + k * 5, none⟩ = some (.string x.1) ∧ w'.cell? ⟨b, off + k * 5 + 1, none⟩ = some (.int .i64 x.2.1) ∧ w'.cell? ⟨b, off + k * 5 + 2, none⟩ = some (.int .i64 x.2.2.1) ∧ w'.cell? ⟨b, off + k * 5 + 3, none⟩ = some (.int .i64 x.2.2.2.1) ∧ w'.cell? ⟨b, off + k * 5 + 4, none⟩ = some (.int .i64 x.2.2.2.2)) (first | go_keep | ((try dsimp only); (repeat' apply And.intro); all_goals first | go_keep | (refine Ext.cell ?_ g0; (repeat (first | exact Ext.refl _ | assumption | refine Ext.drew ?_ | refine Ext.drewN ?_ _ | refine Ext.alloc ?_ _ | refine Ext.trans ?_ x6 | refine Ext.trans ?_ x5 | refine Ext.trans ?_ x4 | refine Ext.trans ?_ x3)); done) | (refine Ext.cell ?_ g1; (repeat (first | exact Ext.refl _ | assumption | refine Ext.drew ?_ | refine Ext.drewN ?_ _ | refine Ext.alloc ?_ _ | refine Ext.trans ?_ x6 | refine Ext.trans ?_ x5 | refine Ext.trans ?_ x4 | refine Ext.trans ?_ x3)); done) | (refine Ext.cell ?_ g2; (repeat (first | exact Ext.refl _ | assumption | refine Ext.drew ?_ | refine Ext.drewN ?_ _ | refine Ext.alloc ?_ _ | refine Ext.trans ?_ x6 | refine Ext.trans ?_ x5 | refine Ext.trans ?_ x4 | refine Ext.trans ?_ x3)); done) | (refine Ext.cell ?_ g3; (repeat (first | exact Ext.refl _ | assumption | refine Ext.drew ?_ | refine Ext.drewN ?_ _ | refine Ext.alloc ?_ _ | refine Ext.trans ?_ x6 | refine Ext.trans ?_ x5 | refine Ext.trans ?_ x4 | refine Ext.trans ?_ x3)); done) | (refine Ext.cell ?_ g4; (repeat (first | exact Ext.refl _ | assumption | refine Ext.drew ?_ | refine Ext.drewN ?_ _ | refine Ext.alloc ?_ _ | refine Ext.trans ?_ x6 | refine Ext.trans ?_ x5 | refine Ext.trans ?_ x4 | refine Ext.trans ?_ x3)); done)))
            (first
              | (go_at_call 14; refine (hV _).mono ?_; rintro e w3 ⟨rfl, x3⟩)
              | (go_at_call 15; refine (hRV _).mono ?_; rintro e w4 ⟨rfl, x4⟩)
              | (go_at_call 16; refine (hN _).mono ?_; rintro e w5 ⟨rfl, rfl⟩)
              | (go_at_call 17; refine (hRN _).mono ?_; rintro e w6 ⟨rfl, rfl⟩)
              | fail)
          go_wp2
          go_roundw
          case rel => exact ⟨k + 1, by omega, by go_num, by (repeat (first | exact Ext.refl _ | assumption | refine Ext.drew ?_ | refine Ext.drewN ?_ _ | refine Ext.alloc ?_ _ | refine Ext.trans ?_ x6 | refine Ext.trans ?_ x5 | refine Ext.trans ?_ x4 | refine Ext.trans ?_ x3)); done⟩
          case measure => simp [intOf]; omega
        · obtain rfl : k = l.length := by omega
          have hN := fun W => name_any s W
          have hRN := fun W => rname_any s W
          have hrow := fun W hx => row_any Q cap2 r W (h2.ext hx)
          have hrrow := fun W hx => rrow_any Q cap2 r W (h2.ext hx)
          have hit := fun W hx => items_any P cap l W (h.ext hx)
          have hrit := fun W hx => ritems_any P cap l W (h.ext hx)
          have hf := fun W hx => fits_any P Q cap cap2 l r W (h.ext hx) (h2.ext hx)
          have hrf := fun W hx => rfits_any P Q cap cap2 l r W (h.ext hx) (h2.ext hx)
          generalize nameF s = z1 at *
          generalize rowB r = z2 at *
          generalize itemsB l = z3 at *
          generalize fitsB l r = z4 at *
          go_wp2_with (first
            | (go_at_call 16; refine (hN _).mono ?_; rintro e w5 ⟨rfl, rfl⟩)
            | (go_at_call 17; refine (hRN _).mono ?_; rintro e w6 ⟨rfl, rfl⟩)
            | (go_at_call 18; refine (hrow _ hx).mono ?_; rintro e w8 ⟨rfl, x8⟩; replace x8 := hx.trans x8)
            | (go_at_call 19; refine (hrrow _ x8).mono ?_; rintro e w9 ⟨rfl, x9⟩; replace x9 := x8.trans x9)
            | (go_at_call 20; refine (hit _ x9).mono ?_; rintro e w10 ⟨rfl, x10⟩; replace x10 := x9.trans x10)
            | (go_at_call 21; refine (hrit _ x10).mono ?_; rintro e w11 ⟨rfl, x11⟩; replace x11 := x10.trans x11)
            | (go_at_call 22; refine (hf _ x11).mono ?_; rintro e w12 ⟨rfl, x12⟩; replace x12 := x11.trans x12)
            | (go_at_call 23; refine (hrf _ x12).mono ?_; rintro e w13 ⟨rfl, x13⟩; replace x13 := x12.trans x13)
            | (go_at_call 11; refine (aw _ x13).mono ?_; rintro e w7 ⟨rfl, hx7⟩))
          go_ret
          exact ⟨by first | rfl | (simp; done), x13.trans hx7⟩
end
section
open Go.RowKit
set_option linter.unusedVariables false
set_option linter.unusedSimpArgs false
set_option linter.unusedSectionVars false
set_option maxRecDepth 100000
attribute [local go_sem] Oper.semAt_some

def rowA : List Vl := [(1, -5, ⟨#[]⟩), (2, 0, ⟨#[97, 34, 98]⟩)]
theorem rowA_ok : rowB rowA = true := by decide +kernel
theorem rowA_text : textL rowA = [45, 53, 44, 34, 97, 92, 34, 98, 34] := by
  unfold textL
  rw [if_pos rowA_ok]
  have h1 : wrL (1, -5, ⟨#[]⟩) = [45, 53] := by
    unfold wrL
    rw [if_pos rfl]
    unfold Lib.itoa
    rw [if_pos (by decide), show ((-5 : Int)).natAbs = 5 from rfl, Lib.decDigits_one (by omega)]
    rfl
  have h2 : wrL (2, 0, ⟨#[97, 34, 98]⟩) = [34, 97, 92, 34, 98, 34] := by decide +kernel
  unfold rowA
  rw [List.map_cons, List.map_cons, List.map_nil, h1, h2]
  decide +kernel
theorem slV_two {w : World} {t : TypeId} : SlV (w.alloc (.cells #[.int .i64 1, .int .i64 (-5), .string ⟨#[]⟩, .int .i64 2, .int .i64 0, .string ⟨#[97, 34, 98]⟩] t)) (some ⟨w.heap.size, 0, none⟩) 2 rowA := by
  refine ⟨fun i x hi => ⟨_, _, rfl, fun j v hj => ?_⟩, by simp [rowA], by omega⟩
  have key := box1 (Ext.refl (w.alloc (.cells #[.int .i64 1, .int .i64 (-5), .string ⟨#[]⟩, .int .i64 2, .int .i64 0, .string ⟨#[97, 34, 98]⟩] t)))
  match i, hi with
  | 0, hi =>
    simp [rowA] at hi
    subst hi
    match j, hj with
    | 0, hj => simp [Vl.cells] at hj; subst hj; exact key 0 _ rfl
    | 1, hj => simp [Vl.cells] at hj; subst hj; exact key 1 _ rfl
    | 2, hj => simp [Vl.cells] at hj; subst hj; exact key 2 _ rfl
    | j + 3, hj => simp [Vl.cells] at hj
  | 1, hi =>
    simp [rowA] at hi
    subst hi
    match j, hj with
    | 0, hj => simp [Vl.cells] at hj; subst hj; exact key 3 _ rfl
    | 1, hj => simp [Vl.cells] at hj; subst hj; exact key 4 _ rfl
    | 2, hj => simp [Vl.cells] at hj; subst hj; exact key 5 _ rfl
    | j + 3, hj => simp [Vl.cells] at hj
  | i + 2, hi => simp [rowA] at hi
theorem awake_any (w : World) (ht : Tab w) : Calls Tryd.prog 11 #[] w fun e w' => e = .returned (.bool true) ∧ Ext w w' := by
  have hT := fun t => text_any (some ⟨w.heap.size, 0, none⟩) 2 rowA _ (slV_two (w := w) (t := t)) (ht.ext ((Ext.refl w).alloc _))
  rw [rowA_text] at hT
  go_enter Tryd.func11, Tryd.ntmps11
  go_wp2_with (go_at_call 44; refine (hT _).mono ?_; rintro e w1 ⟨rfl, hx1⟩)
  go_ret
  exact ⟨by first | rfl | (simp; done) | (simp; decide), ((Ext.refl w).alloc _).trans hx1⟩
end
section
open Go.RowKit
set_option linter.unusedVariables false
set_option linter.unusedSimpArgs false
set_option linter.unusedSectionVars false
set_option maxRecDepth 100000
attribute [local go_sem] Oper.semAt_some

/-- what is read of the library's variables -/
structure LibT (w : World) : Prop where
  tab : Tab w
  syn : ∃ tp p, w.var? Tryd.prog "strconv.ErrSyntax" = some #[.iface tp p]
  rng : ∃ tp p, w.var? Tryd.prog "strconv.ErrRange" = some #[.iface tp p]
theorem var_kept {w w' : World} {n : String} {v : Array Value} {R : Nat} (h : w.var? Tryd.prog n = some v) (hx : Upd w R w') (hR : ∀ g, Tryd.prog.globalNamed n = some g → g ≠ R) : w'.var? Tryd.prog n = some v := by
  unfold World.var? at *
  cases hg : Tryd.prog.globalNamed n with
  | none => rw [hg] at h; cases h
  | some g =>
    rw [hg] at h
    simp only [Option.bind_some] at h ⊢
    cases hh : w.heap[g]? with
    | none => rw [hh] at h; cases h
    | some o => rw [hx.heap hh (hR g hg)]; rw [hh] at h; exact h
theorem var_below {w : World} {n : String} {v : Array Value} (h : w.var? Tryd.prog n = some v) : ∀ g, Tryd.prog.globalNamed n = some g → g < w.heap.size := by
  intro g hg
  unfold World.var? at h
  rw [hg] at h
  simp only [Option.bind_some] at h
  cases hh : w.heap[g]? with
  | none => rw [hh] at h; cases h
  | some o => exact (Array.getElem?_eq_some_iff.1 hh).1
/-- the listed variables lie below every block that was not there: what changes only such a block keeps them -/
def LibB (B : Nat) (w : World) : Prop := LibT w ∧ ∀ n g, n ∈ ["internal/strconv.uint64pow10", "strconv.ErrSyntax", "strconv.ErrRange"] → Tryd.prog.globalNamed n = some g → g < B
theorem LibT.below {w : World} (h : LibT w) : LibB w.heap.size w := by
  refine ⟨h, ?_⟩
  intro n g hn hg
  obtain ⟨tp, p, hs⟩ := h.syn
  obtain ⟨tp2, p2, hr⟩ := h.rng
  have ht := h.tab
  simp only [List.mem_cons, List.not_mem_nil, or_false] at hn
  rcases hn with rfl | rfl | rfl
  · exact var_below ht g hg
  · exact var_below hs g hg
  · exact var_below hr g hg
theorem LibB.kept {B : Nat} {w w' : World} (h : LibB B w) (hx : Below B w w') : LibB B w' := by
  have key : ∀ n, n ∈ ["internal/strconv.uint64pow10", "strconv.ErrSyntax", "strconv.ErrRange"] → ∀ v, w.var? Tryd.prog n = some v → w'.var? Tryd.prog n = some v := by
    intro n hn v hv
    unfold World.var? at *
    cases hg : Tryd.prog.globalNamed n with
    | none => rw [hg] at hv; cases hv
    | some g =>
      rw [hg] at hv
      simp only [Option.bind_some] at hv ⊢
      rw [hx.block g (h.2 n g hn hg)]; exact hv
  refine ⟨⟨?_, ?_, ?_⟩, h.2⟩
  · exact key _ (by simp) _ h.1.tab
  · obtain ⟨tp, p, hs⟩ := h.1.syn
    exact ⟨tp, p, key _ (by simp) _ hs⟩
  · obtain ⟨tp, p, hs⟩ := h.1.rng
    exact ⟨tp, p, key _ (by simp) _ hs⟩
theorem LibB.mono {B B' : Nat} {w : World} (h : LibB B w) (hB : B ≤ B') : LibB B' w := ⟨h.1, fun n g hn hg => Nat.lt_of_lt_of_le (h.2 n g hn hg) hB⟩
theorem Upd.low {a b : World} {R B : Nat} (h : Upd a R b) (hR : B ≤ R) (hB : B ≤ a.heap.size) : Below B a b := Below.grown (Below.refl B a) h hB (fun k hk => by injection hk with hk; omega)
theorem Upd.then_low {a b c : World} {R : Nat} (h : Upd a R b) (k : Below a.heap.size b c) : Upd a R c :=
  ⟨k.os.trans h.os, k.tape.trans h.tape, k.output.trans h.output, Nat.le_trans h.size k.size, fun i hi hne => (k.block i hi).trans (h.block i hi hne)⟩
theorem Bld.upd {w w' : World} {b R : Nat} {l : List UInt8} (h : Bld w b l) (hx : Upd w R w') (hR : R < b) : Bld w' b l := by
  have key : ∀ p, Lib.BuilderAtF BldT 5 b b p (Lib.byteCells l) w → Lib.BuilderAtF BldT 5 b b p (Lib.byteCells l) w' := by
    rintro p ⟨hB, v, hb, hown, hne⟩
    refine ⟨hB, v, hx.heap hb (by omega), ?_, hne⟩
    refine hown.kept (row := some R) hx ?_
    cases hv : v.ownBlock with
    | none => exact .inl rfl
    | some g => exact .inr (fun e => by
        obtain rfl : g = R := by simpa using e
        have := (hown.lt g hv).1
        omega)
  rcases h with h | h
  · exact .inl (key _ h)
  · exact .inr (key _ h)
def stopV : Value := .iface 82 (.agg #[])
/-- what 'text' leaves -/
def TextPost (R : Nat) (s : ByteArray) (n : Nat) (w : World) (e : Ending) (w' : World) : Prop :=
  Upd w R w' ∧ ((∃ d n', readTx (s.size + 1) (s.data.toList.drop (n + 1)) = some (d, s.data.toList.drop n') ∧ n' ≤ s.size ∧ e = .returned (.string ⟨d.toArray⟩) ∧ Rdr w' R s (n' : Nat)) ∨
    (readTx (s.size + 1) (s.data.toList.drop (n + 1)) = none ∧ e = .panicked [{ v := stopV, recovered := false }]))
/-- how much is read: what was taken and what is still to be read -/
def TxRel (s : ByteArray) (n : Nat) (acc : List UInt8) (p : Nat) : Prop := ∃ f, s.size + 1 ≤ f + p ∧ p ≤ s.size + 1 ∧ acc.length ≤ p ∧ readTx (s.size + 1) (s.data.toList.drop (n + 1)) = (readTx f (s.data.toList.drop p)).map fun z => (acc ++ z.1, z.2)
theorem byteU_out (s : ByteArray) (i : Nat) (h : ¬ i < s.size) : byteU s i = 0 := by
  unfold byteU
  rw [List.getD_eq_getElem?_getD, List.getElem?_eq_none (by simpa using Nat.le_of_not_lt h)]
  rfl
theorem byteU_Nall (s : ByteArray) (i : Nat) : byteN s i = ((byteU s i).toNat : Int) := by
  by_cases h : i < s.size
  · exact byteU_N s i h
  · rw [byteU_out s i h]
    unfold byteN
    rw [dif_neg h]
    rfl
theorem drop_out (s : ByteArray) (i : Nat) (h : ¬ i < s.size) : s.data.toList.drop i = [] := List.drop_eq_nil_of_le (by simpa using Nat.le_of_not_lt h)
theorem readTx_nil (f : Nat) : readTx f [] = none := by cases f <;> rfl
theorem hex2_len : ∀ {t r' : List UInt8} {d : UInt8}, hex2 t = some (d, r') → r'.length ≤ t.length
  | [], _, _, h => by cases h
  | [a], _, _, h => by cases h
  | a :: b :: r, r', d, h => by
    rw [hex2] at h
    cases ha : hexD a with
    | none => rw [ha] at h; cases h
    | some x =>
      cases hb : hexD b with
      | none => rw [ha, hb] at h; cases h
      | some y =>
        rw [ha, hb] at h
        injection h with h
        injection h with _ h
        subst h
        simp only [List.length_cons]
        omega
theorem escD_len : ∀ {t r' : List UInt8} {d : UInt8}, escD t = some (d, r') → r'.length ≤ t.length
  | [], _, _, h => by cases h
  | c :: r, r', d, h => by
    rw [escD] at h
    split at h
    · have := hex2_len h
      simp only [List.length_cons]
      omega
    · injection h with h
      injection h with _ h
      subst h
      simp
/-- enough fuel is enough -/
theorem readTx_fuel : ∀ (n m : Nat) (t : List UInt8), t.length < n → t.length < m → readTx n t = readTx m t
  | 0, m, t, h, _ => by omega
  | n + 1, 0, t, _, h => by omega
  | n + 1, m + 1, [], _, _ => rfl
  | n + 1, m + 1, c :: r, h, h' => by
    rw [readTx_cons, readTx_cons]
    split
    · rfl
    · cases hx : (if c = 92 then escD r else some (c, r)) with
      | none => rfl
      | some z =>
        obtain ⟨d, r'⟩ := z
        simp only
        have hlen : r'.length ≤ r.length := by
          split at hx
          · exact escD_len hx
          · injection hx with hx
            injection hx with _ hx
            subst hx
            exact Nat.le_refl _
        simp only [List.length_cons] at h h'
        rw [readTx_fuel n m r' (by omega) (by omega)]
theorem readTx_more {n : Nat} {t : List UInt8} (m : Nat) (h : t.length < n) (h' : t.length < m) : readTx n t = readTx m t := readTx_fuel n m t h h'
theorem TxRel.start (s : ByteArray) (n : Nat) (hn : n < s.size) : TxRel s n [] (n + 1) := ⟨s.size + 1, by omega, by omega, by simp, by cases readTx (s.size + 1) (s.data.toList.drop (n + 1)) <;> simp⟩
theorem TxRel.stop {s : ByteArray} {n p : Nat} {acc : List UInt8} (h : TxRel s n acc p) (hp : ¬ p < s.size) : readTx (s.size + 1) (s.data.toList.drop (n + 1)) = none := by
  obtain ⟨f, _, _, _, h⟩ := h
  rw [h, drop_out s p hp, readTx_nil]
  rfl
theorem TxRel.close {s : ByteArray} {n p : Nat} {acc : List UInt8} (h : TxRel s n acc p) (hp : p < s.size) (hu : byteU s p = 34) : readTx (s.size + 1) (s.data.toList.drop (n + 1)) = some (acc, s.data.toList.drop (p + 1)) := by
  obtain ⟨f, hf, _, _, h⟩ := h
  obtain ⟨f, rfl⟩ : ∃ g, f = g + 1 := ⟨f - 1, by omega⟩
  rw [h, byteU_drop s p hp, hu, readTx_cons, if_pos rfl]
  simp
theorem TxRel.no {s : ByteArray} {n p : Nat} {acc : List UInt8} (h : TxRel s n acc p) (hp : p < s.size) (hu : byteU s p = 92) (he : escD (s.data.toList.drop (p + 1)) = none) : readTx (s.size + 1) (s.data.toList.drop (n + 1)) = none := by
  obtain ⟨f, hf, _, _, h⟩ := h
  obtain ⟨f, rfl⟩ : ∃ g, f = g + 1 := ⟨f - 1, by omega⟩
  rw [h, byteU_drop s p hp, hu, readTx_cons, if_neg (by decide), if_pos rfl, he]
  rfl
theorem TxRel.go {s : ByteArray} {n p q : Nat} {acc : List UInt8} {d : UInt8} (h : TxRel s n acc p) (hp : p < s.size) (hu : byteU s p ≠ 34) (hq : p < q) (hq2 : q ≤ s.size)
    (he : (if byteU s p = 92 then escD (s.data.toList.drop (p + 1)) else some (byteU s p, s.data.toList.drop (p + 1))) = some (d, s.data.toList.drop q)) : TxRel s n (acc ++ [d]) q := by
  obtain ⟨f, hf, _, hl, h⟩ := h
  obtain ⟨f, rfl⟩ : ∃ g, f = g + 1 := ⟨f - 1, by omega⟩
  refine ⟨f, by omega, by omega, by simp; omega, ?_⟩
  rw [h, byteU_drop s p hp, readTx_cons, if_neg hu, he]
  simp only
  cases readTx f (s.data.toList.drop q) <;> simp
theorem TxRel.plain {s : ByteArray} {n p : Nat} {acc : List UInt8} (h : TxRel s n acc p) (hp : p < s.size) (hu : byteU s p ≠ 34) (hu2 : byteU s p ≠ 92) : TxRel s n (acc ++ [byteU s p]) (p + 1) :=
  h.go hp hu (by omega) (by omega) (by rw [if_neg hu2])
theorem TxRel.esc {s : ByteArray} {n p : Nat} {acc : List UInt8} (h : TxRel s n acc p) (hp : p < s.size) (hu : byteU s p = 92) (hd : byteU s (p + 1) ≠ 120) : TxRel s n (acc ++ [byteU s (p + 1)]) (p + 2) := by
  by_cases hq : p + 1 < s.size
  · refine h.go hp (by rw [hu]; decide) (by omega) (by omega) ?_
    rw [if_pos hu, byteU_drop s (p + 1) hq]
    show (if byteU s (p + 1) = 120 then _ else _) = _
    rw [if_neg hd]
  · have hn := h.no hp hu (by rw [drop_out s (p + 1) hq]; rfl)
    obtain ⟨f, hf, _, hl, _⟩ := h
    refine ⟨0, by omega, by omega, by simp; omega, ?_⟩
    rw [hn]
    rfl
theorem hex2_V (a b : UInt8) (r : List UInt8) : hex2 (a :: b :: r) = (hexV 0 [a, b]).map fun v => (UInt8.ofNat v, r) := by
  rw [hexV_two]
  show (match hexD a, hexD b with
    | some x, some y => some (UInt8.ofNat (16 * x + y), r)
    | _, _ => none) = _
  cases hexD a with
  | none => rfl
  | some x => cases hexD b <;> rfl
theorem escD_120 (r : List UInt8) : escD (120 :: r) = hex2 r := rfl
theorem TxRel.short {s : ByteArray} {n p : Nat} {acc : List UInt8} (h : TxRel s n acc p) (hp : p < s.size) (hu : byteU s p = 92) (hd : byteU s (p + 1) = 120) (hq : ¬ p + 3 < s.size) : readTx (s.size + 1) (s.data.toList.drop (n + 1)) = none := by
  refine h.no hp hu ?_
  by_cases h1 : p + 1 < s.size
  · rw [byteU_drop s (p + 1) h1, hd, escD_120]
    by_cases h2 : p + 1 + 1 < s.size
    · rw [byteU_drop s (p + 1 + 1) h2, drop_out s (p + 1 + 1 + 1) (by omega)]
      rfl
    · rw [drop_out s (p + 1 + 1) h2]
      rfl
  · rw [byteU_out s _ h1] at hd
    exact absurd hd (by decide)
theorem esc_two {s : ByteArray} {p : Nat} (hd : byteU s (p + 1) = 120) (hq : p + 3 < s.size) : escD (s.data.toList.drop (p + 1)) = (hexV 0 [byteU s (p + 2), byteU s (p + 3)]).map fun v => (UInt8.ofNat v, s.data.toList.drop (p + 4)) := by
  rw [byteU_drop s (p + 1) (by omega), hd, escD_120, byteU_drop s (p + 1 + 1) (by omega), byteU_drop s (p + 1 + 1 + 1) (by omega), hex2_V]
theorem TxRel.bad {s : ByteArray} {n p : Nat} {acc : List UInt8} (h : TxRel s n acc p) (hp : p < s.size) (hu : byteU s p = 92) (hd : byteU s (p + 1) = 120) (hq : p + 3 < s.size) (hv : hexV 0 [byteU s (p + 2), byteU s (p + 3)] = none) : readTx (s.size + 1) (s.data.toList.drop (n + 1)) = none := by
  refine h.no hp hu ?_
  rw [esc_two hd hq, hv]
  rfl
theorem TxRel.hex {s : ByteArray} {n p v : Nat} {acc : List UInt8} (h : TxRel s n acc p) (hp : p < s.size) (hu : byteU s p = 92) (hd : byteU s (p + 1) = 120) (hq : p + 3 < s.size) (hv : hexV 0 [byteU s (p + 2), byteU s (p + 3)] = some v) : TxRel s n (acc ++ [UInt8.ofNat v]) (p + 4) := by
  refine h.go hp (by rw [hu]; decide) (by omega) (by omega) ?_
  rw [if_pos hu, esc_two hd hq, hv]
  rfl
theorem str_two (s : ByteArray) (k : Nat) (hk : k + 1 < s.size) (w : World) : (Instr.slice 9 (.string s) (some (.int .i64 (k : Int))) (some (.int .i64 ((k : Int) + 2))) none).run Tryd.prog w = .ok (.string ⟨#[byteU s k, byteU s (k + 1)]⟩) w := by
  rw [run_slice_string (P := Tryd.prog) w 9 s .i64 .i64 (k : Int) ((k : Int) + 2) Tryd.underlying9 (by omega) (by omega) (by omega)]
  congr 2
  apply ByteArray.ext
  apply Array.ext'
  have h1 := byteU_drop s k (by omega)
  have h2 := byteU_drop s (k + 1) hk
  simp only [ByteArray.data_extract, Array.toList_extract, List.extract_eq_take_drop]
  rw [show ((k : Int) + 2).toNat - (k : Int).toNat = 2 by omega, show (k : Int).toNat = k from rfl, h1, h2]
  rfl
end
end Go.Proofs.YtepgpejdnlejnaaDoor

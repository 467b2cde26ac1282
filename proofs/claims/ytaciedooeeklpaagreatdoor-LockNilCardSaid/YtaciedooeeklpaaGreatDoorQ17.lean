/- LnA; LnB; RowBase; LmRow0; LnRow0 (merged by group.py) -/
import Derived.Test.YtaciedooeeklpaaGreatDoorQ16
import Derived.Deep.QuietTactic
import Derived.Deep.LoopGhost
import Derived.Test.YtaciedooeeklpaaGreatDoorProg
import Derived.Test.YtaciedooeeklpaaGreatDoorRows
import Derived.Below
import Derived.Deep.SlicePairs
import Derived.ChangeSame
import Derived.SizedLaws
import Derived.OpenShut
import Derived.ProofKit
import Derived.LaidMore
import Derived.Lay
import Derived.Stop.Joined
import Derived.Stop.LaidErr
import Derived.Test.YtaciedooeeklpaaGreatDoorQ08
import Derived.Lib.SmallJoins
namespace Go.Proofs.YtaciedooeeklpaaGreatDoor
section
open Go.RowKit Go.Maps
set_option linter.unusedVariables false
set_option linter.unusedSimpArgs false
set_option linter.unusedSectionVars false
set_option maxRecDepth 100000
attribute [local go_sem] Oper.semAt_some

theorem nasked (u : Int) (n : ByteArray) (w : World) : Calls Tryz.prog 65 #[.pointer none, .int .i64 u, .string n] w fun e w' => e = .returned (.int .i64 1) ∧ w' = w := by
  go_enter Tryz.func65, Tryz.ntmps65
  go_wp2_with (first | (refine ⟨trivial, ?_⟩) | (with_reducible refine And.intro (fun _ hf => (by cases hf)) ?_))
  go_ret
  exact ⟨rfl, rfl⟩
theorem nask (u m : Int) (n : ByteArray) (w : World) : Calls Tryz.prog 28 #[.pointer none, .int .i64 u, .string n, .int .i64 m] w fun e w' => e = .returned (.tuple #[zeroAsk, .int .i64 1]) ∧ Ext w w' := by
  have hA := fun W => nasked u n W
  have hx1 : Ext w (w.alloc (.cells #[.bool false, .slice none 0 0, .slice none 0 0] 58)) := (Ext.refl w).alloc _
  have HB := Lib.hid (ask_box w)
  obtain ⟨c0, c1, c2, f0, f1, f2⟩ := box_cells (HB.out _ (Ext.refl _))
  go_enter Tryz.func28, Tryz.ntmps28
  go_wp2_with (first
    | (go_at_call 65; refine (hA _).mono ?_; rintro e w2 ⟨rfl, rfl⟩)
    | (refine ⟨trivial, ?_⟩) | (with_reducible refine And.intro (fun _ hf => (by cases hf)) ?_))
  refine bodyPost_ret (ask_end w.heap.size _ _ _ _ _ _ rfl rfl c0 c1 c2) rfl ?_
  exact ⟨rfl, hx1⟩
theorem nrelease (u : Int) (n : ByteArray) (w : World) : Calls Tryz.prog 29 #[.pointer none, .int .i64 u, .string n] w fun e w' => e = .returned (.tuple #[.slice none 0 0, .int .i64 1]) ∧ Ext w w' := by
  have hA := fun W => nasked u n W
  go_enter Tryz.func29, Tryz.ntmps29
  go_wp2_with (go_at_call 65; refine (hA _).mono ?_; rintro e w2 ⟨rfl, rfl⟩)
  go_ret2
  exact ⟨rfl, by first | exact Ext.refl _ | exact (Ext.refl _).alloc _⟩
theorem nweaken (u m : Int) (n : ByteArray) (w : World) : Calls Tryz.prog 30 #[.pointer none, .int .i64 u, .string n, .int .i64 m] w fun e w' => e = .returned (.tuple #[.slice none 0 0, .int .i64 1]) ∧ Ext w w' := by
  have hA := fun W => nasked u n W
  go_enter Tryz.func30, Tryz.ntmps30
  go_wp2_with (first
    | (go_at_call 65; refine (hA _).mono ?_; rintro e w2 ⟨rfl, rfl⟩)
    | (refine ⟨trivial, ?_⟩) | (with_reducible refine And.intro (fun _ hf => (by cases hf)) ?_))
  go_ret2
  exact ⟨rfl, by first | exact Ext.refl _ | exact (Ext.refl _).alloc _⟩
theorem nunit (u : Int) (w : World) : Calls Tryz.prog 52 #[.pointer none, .int .i64 u] w fun e w' => e = .returned (.int .i64 1) ∧ w' = w := by
  have hA := fun W => nasked u ⟨#[97]⟩ W
  go_enter Tryz.func52, Tryz.ntmps52
  go_wp2_with (go_at_call 65; refine (hA _).mono ?_; rintro e w2 ⟨rfl, rfl⟩)
  go_ret
  exact ⟨rfl, rfl⟩
theorem nend (u : Int) (w : World) : Calls Tryz.prog 18 #[.pointer none, .int .i64 u] w fun e w' => e = .returned (.tuple #[.slice none 0 0, .int .i64 1]) ∧ Ext w w' := by
  have hA := fun W => nunit u W
  go_enter Tryz.func18, Tryz.ntmps18
  go_wp2_with (go_at_call 52; refine (hA _).mono ?_; rintro e w2 ⟨rfl, rfl⟩)
  go_ret2
  exact ⟨rfl, (Ext.refl _).alloc _⟩
theorem nleave (u : Int) (w : World) : Calls Tryz.prog 31 #[.pointer none, .int .i64 u] w fun e w' => e = .returned (.tuple #[.slice none 0 0, .int .i64 1]) ∧ Ext w w' := by
  have hA := fun W => nunit u W
  go_enter Tryz.func31, Tryz.ntmps31
  go_wp2_with (go_at_call 52; refine (hA _).mono ?_; rintro e w2 ⟨rfl, rfl⟩)
  go_ret2
  exact ⟨rfl, Ext.refl _⟩
theorem nreset (u : Int) (n : ByteArray) (w : World) : Calls Tryz.prog 32 #[.pointer none, .int .i64 u, .string n] w fun e w' => e = .returned (.int .i64 1) ∧ Ext w w' := by
  have hA := fun W => nasked u n W
  go_enter Tryz.func32, Tryz.ntmps32
  go_wp2_with (go_at_call 65; refine (hA _).mono ?_; rintro e w2 ⟨rfl, rfl⟩)
  go_ret
  exact ⟨rfl, Ext.refl _⟩
theorem nline (w : World) : Calls Tryz.prog 14 #[.pointer none] w fun e w' => e = .returned (.slice none 0 0) ∧ Ext w w' := by
  go_enter Tryz.func14, Tryz.ntmps14
  go_wp2
  go_ret
  exact ⟨rfl, Ext.refl _⟩
theorem nwaits (u : Int) (w : World) : Calls Tryz.prog 15 #[.pointer none, .int .i64 u] w fun e w' => e = .returned (.slice none 0 0) ∧ Ext w w' := by
  go_enter Tryz.func15, Tryz.ntmps15
  go_wp2
  go_ret
  exact ⟨rfl, Ext.refl _⟩
theorem nunits (w : World) : Calls Tryz.prog 17 #[.pointer none] w fun e w' => e = .returned (.slice none 0 0) ∧ Ext w w' := by
  go_enter Tryz.func17, Tryz.ntmps17
  go_wp2
  go_ret
  exact ⟨rfl, Ext.refl _⟩
theorem nnoticed (u : Int) (w : World) : Calls Tryz.prog 23 #[.pointer none, .int .i64 u] w fun e w' => e = .returned (.slice none 0 0) ∧ Ext w w' := by
  have hS := fun W => Tryz.slices_Sort_string_none none 0 W
  go_enter Tryz.func23, Tryz.ntmps23
  go_wp2_with (go_at_call 61; refine (hS _).mono ?_; rintro e w2 ⟨rfl, rfl⟩)
  go_ret
  exact ⟨rfl, Ext.refl _⟩
theorem nins (f : Value) (w : World) : Calls Tryz.prog 113 #[.slice none 0 0, .int .i64 0, .int .i64 0, f] w fun e w' => e = .returned (.tuple #[]) ∧ Ext w w' := by
  go_enter Tryz.func113, Tryz.ntmps113
  go_wp2_with (fail)
  go_loopw [8] (fun i W => i = .int .i64 1 ∧ W = w) (fun _ _ => 0)
  case atStart => exact ⟨rfl, rfl⟩
  case round =>
    obtain ⟨rfl, rfl⟩ := hrel
    go_wp2_with (fail)
    go_end0
    exact ⟨rfl, Ext.refl _⟩
theorem npdq (x : Int) (f : Value) (w : World) : Calls Tryz.prog 83 #[.slice none 0 0, .int .i64 0, .int .i64 0, .int .i64 x, f] w fun e w' => e = .returned (.tuple #[]) ∧ Ext w w' := by
  have h := fun W => nins f W
  go_enter Tryz.func83, Tryz.ntmps83
  go_wp2_with (fail)
  go_loopw [1, 2] (fun a b W => a = .int .i64 0 ∧ b = .int .i64 0 ∧ W = w) (fun _ _ _ => 0)
  case atStart => exact ⟨rfl, rfl, rfl⟩
  case round =>
    obtain ⟨rfl, rfl, rfl⟩ := hrel
    go_wp2_with (go_at_call 113; refine (h _).mono ?_; rintro e w2 ⟨rfl, hx2⟩)
    try simp only [Exit.inBlock, Exit.then]
    refine bodyPost_ret (results_none rfl _ _ _) rfl ?_
    exact ⟨rfl, hx2⟩
theorem nsort (f : Value) (w : World) : Calls Tryz.prog 39 #[.slice none 0 0, f] w fun e w' => e = .returned (.tuple #[]) ∧ Ext w w' := by
  have h := fun W => npdq (Lib.bitLen (0 : Int).toNat) f W
  have hl := fun W => Tryz.bits_Len 0 W (by omega) (by omega)
  go_enter Tryz.func39, Tryz.ntmps39
  go_wp2_with (first
    | (go_at_call 84; refine (hl _).mono ?_; rintro e w2 ⟨rfl, rfl⟩)
    | (go_at_call 83; refine (h _).mono ?_; rintro e w3 ⟨rfl, hx3⟩))
  go_end0
  exact ⟨rfl, hx3⟩
theorem nall (w : World) : Calls Tryz.prog 11 #[.pointer none] w fun e w' => e = .returned (.slice none 0 0) ∧ Ext w w' := by
  have h := fun W => nsort (.func (.func 40) #[] #[]) W
  go_enter Tryz.func11, Tryz.ntmps11
  go_wp2_with (go_at_call 39; refine (h _).mono ?_; rintro e w2 ⟨rfl, hx2⟩)
  go_ret
  exact ⟨rfl, hx2⟩
theorem nidx (f : Value) (w : World) : Calls Tryz.prog 99 #[.slice none 0 0, f] w fun e w' => e = .returned (.int .i64 (-1)) ∧ Ext w w' := by
  go_enter Tryz.func99, Tryz.ntmps99
  go_wp2_with (fail)
  go_loopw [8] (fun i W => i = .int .i64 0 ∧ W = w) (fun _ _ => 0)
  case atStart => exact ⟨rfl, rfl⟩
  case round =>
    obtain ⟨rfl, rfl⟩ := hrel
    go_wp2_with (fail)
    go_ret
    exact ⟨rfl, Ext.refl _⟩
theorem ndelf (f : Value) (w : World) : Calls Tryz.prog 59 #[.slice none 0 0, f] w fun e w' => e = .returned (.slice none 0 0) ∧ Ext w w' := by
  have h := fun W => nidx f W
  go_enter Tryz.func59, Tryz.ntmps59
  go_wp2_with (go_at_call 99; refine (h _).mono ?_; rintro e w2 ⟨rfl, hx2⟩)
  go_ret
  exact ⟨rfl, hx2⟩
theorem nheld (u : Int) (w : World) : Calls Tryz.prog 20 #[.pointer none, .int .i64 u] w fun e w' => e = .returned (.slice none 0 0) ∧ Ext w w' := by
  have hmf : ∀ (fn : Fn) (first cap : Array Value) (w : World), (Instr.makeFunc fn first cap).run Tryz.prog w = .ok (.func fn first cap) w := fun _ _ _ _ => rfl
  have h1 := fun W => nall W
  have h2 := fun f W => ndelf f W
  go_enter Tryz.func20, Tryz.ntmps20
  go_wp2_with (first
    | (go_at_call 11; refine (h1 _).mono ?_; rintro e w2 ⟨rfl, hx2⟩)
    | (go_at_call 59; refine (h2 _ _).mono ?_; rintro e w3 ⟨rfl, hx3⟩))
  go_ret
  exact ⟨rfl, (((Ext.refl w).alloc _).trans hx2).trans hx3⟩
end
section
open Go.RowKit Go.Maps
set_option linter.unusedVariables false
set_option linter.unusedSimpArgs false
set_option linter.unusedSectionVars false
set_option maxRecDepth 100000
attribute [local go_sem] Oper.semAt_some

/-- a world that goes on from another one -/
structure ExtW (w : World) where
  to : World
  ext : Ext w to
instance (w : World) : Inhabited (ExtW w) := ⟨⟨w, Ext.refl w⟩⟩
theorem wp_region_quiet_ext {P : Program} {id : Nat} {Q : Exit → Act → World → Prop} {a : Act} {w : World} {l : List Oper} (hm : P.follows .mixedOrders = true) (hB : Region.lexB .any l.toArray = true)
    (h : wpQuiet P l.toArray (fun w' => ∃ p : ExtW w, w' = p.to) (fun a' => ∀ w', (∃ p : ExtW w, w' = p.to) → Q .normal a' w') l a) : (Code.region id l.toArray true).wp P Q a w :=
  wp_region_quiet (C := fun w' => ∃ p : ExtW w, w' = p.to) hm hB ⟨⟨w.drew, (Ext.refl w).drew⟩, rfl⟩ (by simpa using h)
theorem Calls.ext_of {P : Program} {f : FuncId} {args : Array Value} {w : World} {p : ExtW w} {v : Value} (h : Calls P f args p.to fun e w' => e = .returned v ∧ Ext p.to w') : Calls P f args p.to fun e w' => e = .returned v ∧ ∃ q : ExtW w, w' = q.to :=
  h.mono fun _ w' ⟨he, hx⟩ => ⟨he, ⟨w', p.ext.trans hx⟩, rfl⟩
set_option maxHeartbeats 4000000 in
theorem lockNil_any (k u m : Int) (n : ByteArray) (w : World) :
    Calls Tryz.prog 6 #[.agg #[.int .i64 k, .int .i64 u, .int .i64 m, .string n]] w fun e w' => e = .returned (.bool true) ∧ Ext w w' := by
  have hAw := fun W => awake_any W
  obtain ⟨W1, hW1⟩ : ∃ W1, w.alloc (.cells #[.int .i64 k, .int .i64 u, .int .i64 m, .string n] 34) = W1 := ⟨_, rfl⟩
  have hx1 : Ext w W1 := by rw [← hW1]; exact (Ext.refl _).alloc _
  have hB : BoxN W1 w.heap.size 34 #[.int .i64 k, .int .i64 u, .int .i64 m, .string n] := by rw [← hW1]; exact BoxN.new w 34 _
  have c1 : W1.cell? ⟨w.heap.size, 1, none⟩ = some (.int .i64 u) := hB.cell (i := 1) rfl
  have c2 : W1.cell? ⟨w.heap.size, 2, none⟩ = some (.int .i64 m) := hB.cell (i := 2) rfl
  have c3 : W1.cell? ⟨w.heap.size, 3, none⟩ = some (.string n) := hB.cell (i := 3) rfl
  by_cases hbig : 100 < n.size
  · have d1 : decide ((100 : Int) < n.size) = true := decide_eq_true (by omega)
    go_enter Tryz.func6, Tryz.ntmps6
    go_wp2_with (go_at_call 8; refine (hAw _).mono ?_; rintro e w1 ⟨rfl, hx2⟩)
    go_ret
    exact ⟨rfl, hx1.trans hx2⟩
  · have d1 : decide ((100 : Int) < n.size) = false := decide_eq_false (by omega)
    have d2 : ¬ (100 : Int) < n.size := by omega
    have hb : ∀ W, Ext W1 W → W.cell? ⟨w.heap.size, 1, none⟩ = some (.int .i64 u) ∧ W.cell? ⟨w.heap.size, 2, none⟩ = some (.int .i64 m) ∧ W.cell? ⟨w.heap.size, 3, none⟩ = some (.string n) := fun W hx => ⟨hx.cell c1, hx.cell c2, hx.cell c3⟩
    have h1 := fun W => nask u m n W
    have h2 := fun W => nrelease u n W
    have h3 := fun W => nweaken u m n W
    have h4 := fun W => nend u W
    have h5 := fun W => nleave u W
    have h6 := fun W => nreset u n W
    go_enter Tryz.func6, Tryz.ntmps6
    go_wp2_with (first
      | (go_at_call 28; refine (h1 _).mono ?_; rintro e w2 ⟨rfl, hx2⟩; obtain ⟨e1, e2, e3⟩ := hb (w2.alloc (.cells #[.bool false, .slice none 0 0, .slice none 0 0] 58)) (hx2.alloc _))
      | (go_at_call 29; refine (h2 _).mono ?_; rintro e w3 ⟨rfl, hx3⟩; obtain ⟨e1, e2, e3⟩ := hb w3 ((hx2.alloc _).trans hx3))
      | (go_at_call 30; refine (h3 _).mono ?_; rintro e w4 ⟨rfl, hx4⟩; obtain ⟨e1, e2, e3⟩ := hb w4 (((hx2.alloc _).trans hx3).trans hx4))
      | (go_at_call 18; refine (h4 _).mono ?_; rintro e w5 ⟨rfl, hx5⟩; obtain ⟨e1, e2, e3⟩ := hb w5 ((((hx2.alloc _).trans hx3).trans hx4).trans hx5))
      | (go_at_call 31; refine (h5 _).mono ?_; rintro e w6 ⟨rfl, hx6⟩; obtain ⟨e1, e2, e3⟩ := hb w6 (((((hx2.alloc _).trans hx3).trans hx4).trans hx5).trans hx6))
      | (go_at_call 32; refine (h6 _).mono ?_; rintro e w7 ⟨rfl, hx7⟩; obtain ⟨b0, b1, b2, -, -, -⟩ := box_cells (((((((BoxN.new w2 58 #[.bool false, .slice none 0 0, .slice none 0 0]).ext hx3).ext hx4).ext hx5).ext hx6).ext hx7)))
      | (refine ⟨trivial, ?_⟩) | (with_reducible refine And.intro (fun _ hf => (by cases hf)) ?_))
    have hx17 := (((((hx2.alloc (.cells #[.bool false, .slice none 0 0, .slice none 0 0] 58)).trans hx3).trans hx4).trans hx5).trans hx6).trans hx7
    have hcell : ∀ p : ExtW w7, p.to.cell? ⟨w.heap.size, 1, none⟩ = some (.int .i64 u) := fun p => (hb p.to (hx17.trans p.ext)).1
    have g1 := fun W => nheld u W
    have g2 := fun W => nall W
    have g3 := fun W => nline W
    have g4 := fun W => nnoticed u W
    have g5 := fun W => nwaits u W
    have g6 := fun W => nunits W
    have HX := Lib.hid (hx1.trans hx17)
    clear h1 h2 h3 h4 h5 h6 hb e1 e2 e3 b0 b1 b2 hx17 hx7 hx6 hx5 hx4 hx3 hx2
    refine wp_region_quiet_ext (by kernel_rfl) (by kernel_rfl) ?_
    repeat (quiet_step (first
      | (go_at_call 20; exact Calls.ext_of (g1 _))
      | (go_at_call 11; exact Calls.ext_of (g2 _))
      | (go_at_call 14; exact Calls.ext_of (g3 _))
      | (go_at_call 23; exact Calls.ext_of (g4 _))
      | (go_at_call 15; exact Calls.ext_of (g5 _))
      | (go_at_call 17; exact Calls.ext_of (g6 _))
      | (go_at_call 8; exact Calls.ext_of (hAw _))))
    refine wpQuiet_nil ?_
    intro _ hw'
    obtain ⟨p9, hw''⟩ := hw'
    subst hw''
    go_wp2_with (fail)
    go_ret
    exact ⟨rfl, HX.out.trans p9.ext⟩
end
section
open Go.RowKit Go.WideShapes Go.ChangeShapes Go.Deep
set_option linter.unusedVariables false
set_option maxRecDepth 20000

section
variable {H : Type} {enc : TypeId × Value → H} {P : Program}
theorem post_of_below {f : Func} {s : ChangeSpec} {apart fresh handsOn again : Bool} {W W' : World} {args : Array Value} {v : Value} {ds gs : List (DataW H)} {before pa pv : List MemPlace}
    (hW : DataW.Whole enc P f.params.toList s.vars apart W args.toList ds gs before)
    (hres : ∀ (b : Nat) (sp : Nat → Bool) (hd : Bool), DataW.TrodAll enc P W' b sp hd f.resultTypes.toList (v.resultList f.resultTypes.size) (s.fn H (ds ++ gs)).results [])
    (hargs : ∀ sp : Nat → Bool, (∀ p ∈ before, sp p.block = true) → DataW.TrodAll enc P W' 0 sp true f.params.toList args.toList (s.fn H (ds ++ gs)).args pa)
    (hvars : ∀ sp : Nat → Bool, (∀ p ∈ before, sp p.block = true) → DataW.TrodVars enc P W' sp s.vars (s.fn H (ds ++ gs)).vars pv)
    (hps : before = pa ++ pv) (hb : Below W.heap.size W W')
    (hok : ∀ (j : Nat) (t : TypeId) (r : Value), f.resultTypes[j]? = some t → (v.resultList f.resultTypes.size)[j]? = some r → Value.okWide P W' .any 0 t r) :
    s.post enc P f apart fresh handsOn again W args v W' := by
  have hlt : ∀ p ∈ before, p.block < W.heap.size := fun p hp => hW.lt p hp
  have hold : ∀ p ∈ before, (fun b => decide (b < W.heap.size)) p.block = true := fun p hp => by simpa using hlt p hp
  refine ⟨ds, gs, before, [], pa, pv, hW, hres _ _ _, hargs _ hold, hvars _ hold, World.keptBut_mono (fun p hp => ⟨hp, ?_⟩) (hb.frame (· ∈ before)), fun _ => ?_⟩
  · rw [hps, List.mem_append] at hp
    exact Or.inr hp
  · obtain ⟨_, _, _, _, _, hz, hn⟩ := hW
    refine ⟨hok, _, _, ([] ++ pa) ++ pv, ⟨[] ++ pa, pv, trodAll_append (hargs _ (fun _ _ => rfl)) (hres _ _ _), hvars _ (fun _ _ => rfl), rfl, ?_, ?_⟩, ?_⟩
    · intro b off hp
      have hin : MemPlace.cell b off ∈ before := by rw [hps]; simpa using hp
      rw [hb.frozen (hlt _ hin)]
      exact hz b off hin
    · intro ha
      have := hn ha
      rw [hps] at this
      simpa using this
    · intro p hp _
      rw [hps]
      simpa using hp
end

theorem own : ownKnob Tryz.prog.godebug = none := by kernel_rfl
theorem laidOut : laidOutB Tryz.prog = true := by kernel_rfl

theorem weightsAll_in {H : Type} {P : Program} {e : TypeId} : ∀ {l : List (DataW H)} {d : DataW H}, d ∈ l → ∀ n ∈ d.weights P e, n ∈ DataW.weightsAll P e l
  | c :: l, d, hd, n, hn => by
    simp only [DataW.weightsAll, List.mem_append]
    rcases List.mem_cons.1 hd with h | h
    · subst h; exact .inl hn
    · exact .inr (weightsAll_in h n hn)
  | [], _, hd, _, _ => by cases hd
end
section
open Go.RowKit Go.WideShapes Go.ChangeShapes Go.ChangeAt Go.Deep
set_option linter.unusedVariables false
set_option maxRecDepth 20000
set_option linter.unusedSimpArgs false
set_option linter.unusedSectionVars false
set_option maxRecDepth 100000

section
variable {H : Type} {enc : TypeId × Value → H}
theorem returnsInHanded_and_shaped {a : Assume} {C : Checked} {os : Os} {f : FuncId} {fn : Func} {s : ChangeSpec} {conds : List PathCond} {apart fresh handsOn again : Bool} {X : World → Array Value → Prop}
    (hX : ∀ (w w' : World) (args : Array Value), w.heap = w'.heap → X w args → X w' args)
    (own : ownKnob C.prog.godebug = none) (started : os.Started) (noInit : C.prog.inits.idxOf? f = none) (hfn : C.prog.funcs[f]? = some fn)
    (witness : ∃ (w : World) (tape : Tape) (i : Input), w.os = os ∧ (w.forCall tape i).Shaped C.prog ∧ i.vars = [] ∧ Input.okWide C.prog (w.forCall tape i) .any w.heap.size f i ∧
      ((s.pre enc C.prog fn conds apart (w.forCall tape i).memory i.args ∧ X (w.forCall tape i).memory i.args) ∧ sizedMet enc C.prog fn (OpenSpec.ofChange s) apart (w.forCall tape i).memory i.args) ∧ a.holds C.prog (lone (Frame.enter C.prog f i.args .normal) [] (w.forCall tape i)))
    (contract : ∀ (W : World) (base : Nat) (args : Array Value) (ds gs : List (DataW H)) (before : List MemPlace),
      (∀ (j : Nat) t v, fn.params[j]? = some t → args[j]? = some v → Value.okWide C.prog W .any base t v) →
      DataW.Whole enc C.prog fn.params.toList s.vars apart W args.toList ds gs before →
      conds.all (PathCond.test C.prog ⟨fn.params.toList, ds, s.plain.varTypes C.prog, gs⟩) = true →
      (DataW.weightsEach C.prog (fn.params.toList ++ s.plain.varTypes C.prog) (ds ++ gs)).all (· ≤ reachBytes) = true → X W args → W.ShapedOpen C.prog →
      Calls C.prog f args W fun e W' => ∃ v, e = .returned v ∧ s.post enc C.prog fn apart fresh handsOn again W args v W') :
    ReturnsInHanded a C os f .any (fun w args => (s.pre enc C.prog fn conds apart w args ∧ X w args) ∧ sizedMet enc C.prog fn (OpenSpec.ofChange s) apart w args) (s.post enc C.prog fn apart fresh handsOn again) := by
  refine returnsInHanded_of_calls own started noInit witness ?_
  intro w tape i _ hsh _ hok hpre _
  obtain ⟨_, _, _, fn', hfn', _, _, _, _, hval⟩ := hok
  have e : fn' = fn := Option.some.inj (hfn'.symm.trans hfn)
  subst e
  obtain ⟨⟨⟨ds, gs, before, hw, hc⟩, hx⟩, hz⟩ := hpre
  have hw' := DataW.Whole.of_heap (w' := w.forCall tape i) (by rfl) hw
  refine (contract (w.forCall tape i) w.heap.size i.args ds gs before hval hw' hc (hz.weights hw) (hX _ _ _ (by rfl) hx) hsh).mono fun e W' ⟨v, he, hp⟩ => ?_
  subst he
  exact ChangeSpec.post_blind hp
end
def OkI (x : Int) : Prop := -9223372036854775808 ≤ x ∧ x ≤ 9223372036854775807
theorem okI_of {x : Int} (h : (Lit.int .i64 x).wf = true) : OkI x := by
  simp [Lit.wf, IntKind.min, IntKind.max, IntKind.signed, IntKind.bits] at h
  unfold OkI
  omega
abbrev laid2 : List (String × DataW Unit) := [("unicode/utf8.acceptRanges", Rows.laid_unicode_utf8_acceptRanges), ("unicode/utf8.first", Rows.laid_unicode_utf8_first)]
theorem door_met (os : Os) (args : Array Value) : laidMetH Tryz.prog laid2 ((World.laidAll Tryz.prog os laid2).forCall (fun _ _ => 0) ⟨#[], args, []⟩).memory := by
  rw [MakeChecks.laidMetH_plain _ _ _ (by kernel_rfl)]
  exact laidMet_laidAll _ (by kernel_rfl) (by kernel_rfl)
end
section
open Go.RowKit Go.WideShapes Go.ChangeShapes Go.ChangeAt
set_option linter.unusedVariables false
set_option linter.unusedSimpArgs false
set_option linter.unusedSectionVars false
set_option maxRecDepth 100000

theorem open_act {H : Type} {enc : TypeId × Value → H} {W : World} {base b0 : Nat} {r : Go.Reach} {sp : Nat → Bool} {v : Value} {d : DataW H} {ps : List MemPlace}
    (hval : Value.okWide Tryz.prog W r b0 34 v) (h : DataW.Trod enc Tryz.prog W base sp true 34 v d ps) :
    ∃ (k u m : Int) (n : ByteArray), v = .agg #[.int .i64 k, .int .i64 u, .int .i64 m, .string n] := by
  obtain ⟨v0, v1, v2, v3, y0, y1, y2, y3, n, rfl, rfl, rfl, t0, t1, t2, t3⟩ := Go.Joins.open_agg4 Tryz.underlying34 (by kernel_rfl) (by kernel_rfl) hval h
  obtain ⟨x0, a0, c0, w0⟩ := DataW.trod_int (k := .i64) Tryz.underlying3 t0
  obtain ⟨x1, a1, c1, w1⟩ := DataW.trod_int (k := .i64) Tryz.underlying3 t1
  obtain ⟨x2, a2, c2, w2⟩ := DataW.trod_int (k := .i64) Tryz.underlying3 t2
  obtain ⟨s, a3, c3, _⟩ := DataW.trod_string Tryz.underlying9 t3
  simp only [List.cons.injEq, and_true] at a0 a1 a2 a3
  subst a0 a1 a2 a3
  exact ⟨x0, x1, x2, s, rfl⟩
theorem backAct {H : Type} {enc : TypeId × Value → H} {W W' : World} {v : Value} {d : DataW H} {ps : List MemPlace} (h : DataW.Trod enc Tryz.prog W 0 (fun _ => true) true 34 v d ps) (hb : Below W.heap.size W W')
    (hlt : ∀ x ∈ ps, x.block < W.heap.size) (sp : Nat → Bool) (hsp : ∀ x ∈ ps, sp x.block = true) : DataW.Trod enc Tryz.prog W' 0 sp true 34 v d ps :=
  WideElems.Trod_stays laidOutL (by kernel_rfl) (of_decide_eq_true (by kernel_rfl)) h (fun x hx => hb.same (hlt x hx)) hsp
end
end Go.Proofs.YtaciedooeeklpaaGreatDoor

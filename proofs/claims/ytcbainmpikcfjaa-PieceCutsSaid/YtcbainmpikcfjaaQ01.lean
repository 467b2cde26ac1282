/- Range; GenB; RefA; RefB (merged by group.py) -/
import Derived.Test.YtcbainmpikcfjaaQ00
import Derived.RangeFuncNested
import Derived.RangeFuncBound
import Derived.RangeFuncCalls
import Derived.RangeFuncLeaves
import Derived.OwnWalkIn
import Derived.TacticsInMore
import Derived.LoopNIn
import Derived.LoopIn
import Derived.OrdersHeld
import Derived.Deep.RegionHeld3
import Derived.Outline
import Derived.Deep.AppendLies
namespace Go.Proofs.Ytcbainmpikcfjaa
section
open Go.RowKit
set_option linter.unusedVariables false
set_option maxRecDepth 20000

/-- How a round may end: as the kit's word says, or by a panic. -/
def roundPostP (P : Program) (l : Nat) (R : Ending → World → Prop) : Exit → Act → World → Prop
  | .normal, _, w => ∃ v w', (Instr.endRound l none).run P w = .ok v w' ∧ R (.returned v) w'
  | .ret, _, w => ∃ v w', (Instr.endRound l (some .ret)).run P w = .ok v w' ∧ R (.returned v) w'
  | .exit id, _, w => ∃ v w', (Instr.endRound l (some (.exit id))).run P w = .ok v w' ∧ R (.returned v) w'
  | .goto t, _, w => ∃ v w', (Instr.endRound l (some (.goto t))).run P w = .ok v w' ∧ R (.returned v) w'
  | .panic ch, a, w => a.defers = [] ∧ R (.panicked ch) w
  | .outgrown, _, _ => False

theorem roundIn_panics {P : Program} {n l : Nat} {f : FuncId} {fn : Func} {tmps : Array Value} {assign body : Code} {w : World} {R : Ending → World → Prop} (hf : P.funcs[f]? = some fn)
    (h : assign.wpIn (Fence.wide.inRound l) n P (Exit.then (fun a₁ w₁ => ∃ w₂, (Instr.beginRound l).run P w₁ = .ok () w₂ ∧ body.wpIn (Fence.wide.inRound l) n P (roundPostP P l R) a₁ w₂) (fun _ _ _ => False))
      { tmps := tmps, defers := [] } w) :
    RoundIn Fence.wide n P l f tmps assign body w R := by
  refine ⟨trivial, fun c cs hr => ?_⟩
  let b : Frame := { (default : Frame) with fn := f, kind := .normal, roundOf := some l }
  have hb0 : Frame.round l f tmps assign body .normal = b.atR { tmps := tmps, defers := [] } [.code assign, .beginRound, .code body] := by
    simp [Frame.round, Frame.atR, b]
  have hr' : (Fence.wide.inRound l).room ((c :: cs).length + 1 + n) := hr
  have hF' : (Fence.wide.inRound l).fn b.fn := trivial
  obtain ⟨e, a₁, w₁, hq, harr⟩ := h b [.beginRound, .code body] (c :: cs) rfl hF' hr'
  rw [← hb0] at harr
  cases e with
  | normal =>
    obtain ⟨w₂, hbr, hbody⟩ := hq
    have s1 : StepsIn (Machine.fenced P (Fence.wide.inRound l)) P (lone (b.atR a₁ [.beginRound, .code body]) (c :: cs) w₁) (lone (b.atR a₁ [.code body]) (c :: cs) w₂) :=
      .one (fenced_calm (fr := b.atR a₁ [.beginRound, .code body]) hF' hr' rfl) (stepR_beginRound rfl hbr)
    obtain ⟨e₂, a₂, w₃, hq₂, harr₂⟩ := hbody b [] (c :: cs) rfl hF' hr'
    cases e₂ with
    | normal =>
      obtain ⟨v, w₄, hend, hR⟩ := hq₂
      exact ⟨.returned v, w₄, hR, (StepsIn.trans harr s1).trans (StepsIn.trans harr₂ (.one (fenced_calm (fr := b.atR a₂ []) hF' hr' rfl) (stepR_round_end rfl rfl hend)))⟩
    | ret =>
      obtain ⟨v, w₄, hend, hR⟩ := hq₂
      obtain ⟨k₁, hs⟩ := harr₂.2 rfl
      exact ⟨.returned v, w₄, hR, (StepsIn.trans harr s1).trans (StepsIn.trans hs (.one (fenced_calm (fr := b.atR a₂ (.code .ret :: k₁)) hF' hr' rfl) (stepR_round_ret rfl rfl hend)))⟩
    | exit id =>
      obtain ⟨v, w₄, hend, hR⟩ := hq₂
      obtain ⟨k₁, hk, hs⟩ := harr₂.2 rfl rfl
      exact ⟨.returned v, w₄, hR, (StepsIn.trans harr s1).trans (StepsIn.trans hs (.one (fenced_calm (fr := b.atR a₂ (.code (.exit id) :: k₁)) hF' hr' rfl) (stepR_round_exit rfl rfl hk hend)))⟩
    | goto t =>
      obtain ⟨v, w₄, hend, hR⟩ := hq₂
      obtain ⟨k₁, hk, hs⟩ := harr₂.2 rfl rfl
      exact ⟨.returned v, w₄, hR, (StepsIn.trans harr s1).trans (StepsIn.trans hs (.one (fenced_calm (fr := b.atR a₂ (.code (.goto t) :: k₁)) hF' hr' rfl) (stepR_round_goto rfl rfl hk hend)))⟩
    | panic chain =>
      obtain ⟨hd, hR⟩ := hq₂
      obtain ⟨todo, hs⟩ := harr₂
      have hleave : Frame.leaving P { b.atR a₂ todo with mode := .panicking chain } w₃ (.panicked chain) := ⟨rfl, hd, fn, hf⟩
      exact ⟨.panicked chain, w₃, hR, (StepsIn.trans harr s1).trans (StepsIn.trans hs (.one (fenced_leaving (F := Fence.wide.inRound l) hF' hr' hleave) (step_leave_panicked hleave)))⟩
    | outgrown => exact hq₂.elim
  | exit id => exact hq.elim
  | goto t => exact hq.elim
  | ret => exact hq.elim
  | panic chain => exact hq.elim
  | outgrown => exact hq.elim

/-- What code does in the frames of one function. -/
def wpAt (f : FuncId) (P : Program) (c : Code) (Q : Exit → Act → World → Prop) (a : Act) (w : World) : Prop :=
  ∀ (b : Frame) (k : List Item) (cs : List Frame), b.roundOf = none → b.fn = f →
    ∃ e a' w', Q e a' w' ∧ ArrivesIn (Machine.fenced P Fence.wide) P (lone (b.atR a (.code c :: k)) cs w) b k cs e a' w'

section
variable {f : FuncId} {P : Program} {Q : Exit → Act → World → Prop} {a : Act} {w : World}
theorem wpAt_of_wp {c : Code} (h : c.wp P Q a w) : wpAt f P c Q a w :=
  fun b k cs hro _ => (wpIn_wide (n := 0)).2 h b k cs hro trivial (room_wide _)
theorem wpAt_seq {x y : Code} (h : wpAt f P x (Exit.then (wpAt f P y Q) Q) a w) : wpAt f P (Code.seq x y) Q a w := by
  intro b k cs hro hb
  have h0 : (lone (b.atR a (.code (.seq x y) :: k)) cs w).fenced P Fence.wide := fenced_calm trivial (n := 0) (room_wide _) rfl
  obtain ⟨e, a₁, w₁, hq, harr⟩ := h b (.code y :: k) cs hro hb
  cases e with
  | normal =>
    obtain ⟨e₂, a₂, w₂, hq₂, harr₂⟩ := hq b k cs hro hb
    exact ⟨e₂, a₂, w₂, hq₂, .of_steps (.head h0 stepR_seq harr) harr₂⟩
  | exit id => exact ⟨_, a₁, w₁, hq, .of_steps (.one h0 stepR_seq) (.pass (x := .code y) rfl (fun _ _ => .inl (by simp)) harr)⟩
  | goto l => exact ⟨_, a₁, w₁, hq, .of_steps (.one h0 stepR_seq) (.pass (x := .code y) rfl (fun _ _ => .inl (by simp)) harr)⟩
  | ret => exact ⟨_, a₁, w₁, hq, .of_steps (.one h0 stepR_seq) (.pass (x := .code y) rfl (fun _ _ => .inl (by simp)) harr)⟩
  | panic ch => exact ⟨_, a₁, w₁, hq, .of_steps (.one h0 stepR_seq) (.pass (x := .code y) rfl (fun _ _ => .inl (by simp)) harr)⟩
  | outgrown => exact ⟨_, a₁, w₁, hq, .of_steps (.one h0 stepR_seq) (.pass (x := .code y) rfl (fun _ _ => .inl (by simp)) harr)⟩
/-- The first part by the plain walk; what follows is hidden behind K. -/
theorem wpAt_seq_k {x y : Code} (h : ∀ K : Act → World → Prop, (∀ a w, wpAt f P y Q a w → K a w) → x.wp P (Exit.then K Q) a w) : wpAt f P (Code.seq x y) Q a w :=
  wpAt_seq (wpAt_of_wp (h _ fun _ _ h => h))
theorem wpAt_block {id : Nat} {c : Code} (h : wpAt f P c (Exit.inBlock id Q) a w) : wpAt f P (Code.block id c) Q a w := by
  intro b k cs hro hb
  have h0 : (lone (b.atR a (.code (.block id c) :: k)) cs w).fenced P Fence.wide := fenced_calm trivial (n := 0) (room_wide _) rfl
  obtain ⟨e, a₁, w₁, hq, harr⟩ := h b (.inBlock id :: k) cs hro hb
  cases e with
  | normal => exact ⟨.normal, a₁, w₁, hq, .head h0 stepR_block (StepsIn.trans harr (.one (fenced_calm trivial (n := 0) (room_wide _) rfl) stepR_inBlock))⟩
  | exit id' =>
    by_cases hid : id' = id
    · simp only [Exit.inBlock, hid, if_true] at hq
      exact ⟨.normal, a₁, w₁, hq, .head h0 stepR_block (harr.1 k (by simp [exitTo, hid]))⟩
    · simp only [Exit.inBlock, hid, if_false] at hq
      have this : (id == id') = false := by simp; exact fun h => hid h.symm
      have hx : exitTo id' (.inBlock id :: k) = exitTo id' k := by simp [exitTo, this]
      exact ⟨.exit id', a₁, w₁, hq, fun k' hk => .head h0 stepR_block (harr.1 k' (by rw [hx]; exact hk)),
        fun hr' hk => let ⟨k₁, h1, h2⟩ := harr.2 hr' (by rw [hx]; exact hk); ⟨k₁, h1, .head h0 stepR_block h2⟩⟩
  | goto l =>
    have hx : gotoIn l (.inBlock id :: k) = gotoIn l k := by simp [gotoIn]
    exact ⟨_, a₁, w₁, hq, fun k' hk => .head h0 stepR_block (harr.1 k' (by rw [hx]; exact hk)),
      fun hr' hk => let ⟨k₁, h1, h2⟩ := harr.2 hr' (by rw [hx]; exact hk); ⟨k₁, h1, .head h0 stepR_block h2⟩⟩
  | ret => exact ⟨_, a₁, w₁, hq, .of_steps (.one h0 stepR_block) harr⟩
  | panic ch => exact ⟨_, a₁, w₁, hq, .of_steps (.one h0 stepR_block) harr⟩
  | outgrown => exact ⟨_, a₁, w₁, hq, .of_steps (.one h0 stepR_block) harr⟩

/-- A function's contract from such a walk. -/
theorem calls_of_wpAt {fn : Func} {c : Code} {args : Array Value} {R : Ending → World → Prop}
    (hf : P.funcs[f]? = some fn) (hb : fn.body = some c)
    (h : wpAt f P c (bodyPostM Fence.wide 0 P fn R) { tmps := args ++ Array.replicate (fn.ntmps - args.size) undef, defers := [] } w) : Calls P f args w R := by
  refine (callsIn_wide (n := 0)).1 ⟨trivial, fun cs hr => ?_⟩
  let b : Frame := { (default : Frame) with fn := f, kind := .normal, roundOf := none }
  have henter : Frame.enter P f args .normal =
      b.atR { tmps := args ++ Array.replicate (fn.ntmps - args.size) undef, defers := [] } [.code c] := by
    simp [Frame.enter, Frame.atR, hf, hb, b]
  have hF : Fence.wide.fn f := trivial
  obtain ⟨e, a', w', hq, harr⟩ := h b [] cs rfl rfl
  rw [← henter] at harr
  cases e with
  | normal =>
    obtain ⟨e', w'', fr', hR, hs, hfn, hl⟩ := leaves_stepsInM a'.defers .returning w' { b.atR a' [] with mode := .returning } cs rfl rfl rfl hf rfl hF hr hq
    exact ⟨e', w'', fr', hR, ComesIn.of_steps (StepsIn.trans harr (.one (fenced_calm (fr := b.atR a' []) hF hr rfl) (stepR_end rfl))) hs, hfn, hl⟩
  | ret =>
    obtain ⟨todo, hs₀⟩ := harr.1 rfl
    obtain ⟨e', w'', fr', hR, hs, hfn, hl⟩ := leaves_stepsInM a'.defers .returning w' { b.atR a' todo with mode := .returning } cs rfl rfl rfl hf rfl hF hr hq
    exact ⟨e', w'', fr', hR, ComesIn.of_steps hs₀ hs, hfn, hl⟩
  | panic chain =>
    obtain ⟨todo, hs₀⟩ := harr
    obtain ⟨e', w'', fr', hR, hs, hfn, hl⟩ := leaves_stepsInM a'.defers (.panicking chain) w' { b.atR a' todo with mode := .panicking chain } cs rfl rfl rfl hf rfl hF hr hq
    exact ⟨e', w'', fr', hR, ComesIn.of_steps hs₀ hs, hfn, hl⟩
  | exit id => exact hq.elim
  | goto l => exact hq.elim
  | outgrown => exact ⟨.outgrown, w', b, hq, harr.resolve_left (by simp [b]), rfl, trivial⟩

/-- Of an iterator that yields N times and reads what Kp tells: whatever the rounds do, as long as the invariant abides new blocks and draws. -/
def SeqP (P : Program) (g : Nat) (lb : Array Value) (encs : Nat → Array Value) (N : Nat) (Kp : World → Prop) : Prop :=
  ∀ (l : Nat) (J Jx : Nat → World → Prop) (Jp : Nat → List PanicEntry → World → Prop) (W : World),
    (∀ i A B, J i A → Ext A B → J i B) → (∀ i A B, Jx i A → Ext A B → Jx i B) → (∀ i A, J i A → Kp A) →
    (∀ i A, J i A → i < N → YieldAt Fence.wide 0 P l (encs i) A fun e W' =>
      (e = .returned (.bool true) ∧ J (i + 1) W') ∨ (e = .returned (.bool false) ∧ Jx i W') ∨ ∃ ch, e = .panicked ch ∧ Jp i ch W') →
    J 0 W →
    CallsIn Fence.wide 0 P g (#[.func (.yield l) #[] #[]] ++ lb) W fun e W' =>
      ((∃ v, e = .returned v) ∧ (J N W' ∨ ∃ i, i < N ∧ Jx i W')) ∨ ∃ i ch, i < N ∧ e = .panicked ch ∧ Jp i ch W'

/-- How the body of a round may be left. B: the block for the rounds' deferred calls, B + 1: the loop's record. -/
def postP (B : Nat) (I : Nat → World → Prop) (Ix : Nat → Code → World → Prop) (Ip : Nat → List PanicEntry → World → Prop) (i : Nat) (W : World) : Exit → Act → World → Prop
  | .normal, _, W' => W'.heap[B]? = W.heap[B]? ∧ W'.heap[B + 1]? = W.heap[B + 1]? ∧ I (i + 1) W'
  | .ret, _, W' => W'.heap[B]? = W.heap[B]? ∧ W'.heap[B + 1]? = W.heap[B + 1]? ∧ Ix i .ret W'
  | .exit id, _, W' => W'.heap[B]? = W.heap[B]? ∧ W'.heap[B + 1]? = W.heap[B + 1]? ∧ Ix i (.exit id) W'
  | .goto t, _, W' => W'.heap[B]? = W.heap[B]? ∧ W'.heap[B + 1]? = W.heap[B + 1]? ∧ Ix i (.goto t) W'
  | .panic ch, a, W' => W'.heap[B]? = W.heap[B]? ∧ a.defers = [] ∧ Ip i ch W'
  | .outgrown, _, _ => False

/-- The statement: a range over a function that has its contract. -/
theorem wpAt_rangeFunc {g : Operand} {ps : Array Tmp} {assign body : Code} {fn : Func} (hf : P.funcs[f]? = some fn) {gf : Nat} {lb : Array Value}
    (hg : a.eval g = .func (.func gf) #[] lb) (eg : ∀ args w, (callFunc gf args).run P w = .ok (.enter gf args) w)
    {encs : Nat → Array Value} {N : Nat} {Kp : World → Prop} (hseq : SeqP P gf lb encs N Kp) (hps : ∀ i, (encs i).size = ps.size)
    (I : Nat → World → Prop) (Ix : Nat → Code → World → Prop) (Ip : Nat → List PanicEntry → World → Prop)
    (hIe : ∀ i A B, I i A → Ext A B → I i B) (hIxe : ∀ i c A B, Ix i c A → Ext A B → Ix i c B)
    (hIu : ∀ i A B, I i A → Upd A (w.heap.size + 1) B → I i B) (hIxu : ∀ i c A B, Ix i c A → Upd A (w.heap.size + 1) B → Ix i c B)
    (hIs : ∀ i A, I i A → Kp A) (h0 : I 0 w)
    (hround : ∀ i W, I i W → w.heap.size + 2 ≤ W.heap.size → i < N →
      assign.wpIn (Fence.wide.inRound (w.heap.size + 1)) 0 P (Exit.then (fun a' W' => W'.heap[w.heap.size]? = W.heap[w.heap.size]? ∧ W'.heap[w.heap.size + 1]? = W.heap[w.heap.size + 1]? ∧
        ∀ W'', Upd W' (w.heap.size + 1) W'' → W''.heap.size = W'.heap.size → body.wpIn (Fence.wide.inRound (w.heap.size + 1)) 0 P (postP w.heap.size I Ix Ip i W'') a' W'') (fun _ _ _ => False))
        { tmps := (ps.zip (encs i)).foldl (fun t (p, v) => t.setIfInBounds p v) a.tmps, defers := [] } W)
    (hdone : ∀ W, I N W → W.heap[w.heap.size]? = some (.deferred (some [])) → Q .normal { a with defers := { target := .collected w.heap.size, args := #[] } :: a.defers } W)
    (hstop : ∀ i c W, i < N → Ix i c W → W.heap[w.heap.size]? = some (.deferred (some [])) → c.wp P Q { a with defers := { target := .collected w.heap.size, args := #[] } :: a.defers } W)
    (hpanic : ∀ i ch W, i < N → Ip i ch W → W.heap[w.heap.size]? = some (.deferred (some [])) → Q (.panic ch) { a with defers := { target := .collected w.heap.size, args := #[] } :: a.defers } W) :
    wpAt f P (Code.rangeFunc g ps assign body) Q a w := by
  intro b k cs hro hb
  obtain ⟨rec, hrec⟩ : ∃ rec : LoopState → Option Code → Loop, rec = fun st pe => { state := st, pending := pe, fn := b.fn, tmps := a.tmps, params := ps, assign, body, defers := w.heap.size } := ⟨_, rfl⟩
  obtain ⟨W1, hW1⟩ : ∃ W1, (w.alloc (.deferred (some []))).alloc (.loop (rec .ready none)) = W1 := ⟨_, rfl⟩
  have hL1 : W1.heap[w.heap.size + 1]? = some (.loop (rec .ready none)) := by
    rw [← hW1]; have := World.alloc_heap_new (w.alloc (.deferred (some []))) (.loop (rec .ready none)); rwa [World.size_alloc] at this
  have hK1 : W1.heap[w.heap.size]? = some (.deferred (some [])) := by
    rw [← hW1]; exact (Below.heap_alloc _ _ _ (by simp)).trans (World.alloc_heap_new w _)
  have hE1 : Ext w W1 := by rw [← hW1]; exact ((Ext.refl w).alloc _).alloc _
  have hI1 : I 0 W1 := hIe _ _ _ h0 hE1
  have hput : ∀ (A : World) (o : Obj), Upd A (w.heap.size + 1) (A.putObj (w.heap.size + 1) o) := fun A o => grownBy_putObj' A _ o
  have he : (Instr.enterLoop b.fn a.tmps ps assign body b.roundOf).run P w = .ok (w.heap.size + 1, [{ target := .collected w.heap.size, args := #[] }]) W1 := by
    rw [hro, ← hW1, hrec]; exact run_enterLoop_outer _ _ _ _ _
  have hres : (resolve a.eval (rangeCall g (w.heap.size + 1)) 0).run P W1 = .ok { target := .fn (.func gf) lb, args := #[.func (.yield (w.heap.size + 1)) #[] #[]] } W1 := by
    simp only [resolve, hg]
    simp [go_sem]
  have hinv : (invoke (Target.fn (.func gf) lb) #[.func (.yield (w.heap.size + 1)) #[] #[]]).run P W1 = .ok (.enter gf (#[.func (.yield (w.heap.size + 1)) #[] #[]] ++ lb)) W1 := by
    simp [invoke, go_sem, eg]
  have h0' : (lone (b.atR a (.code (.rangeFunc g ps assign body) :: k)) cs w).fenced P Fence.wide :=
    fenced_lone (.inl trivial) (fun _ _ => trivial) (room_wide _)
  have henter := stepR_rangeFunc (P := P) (b := b) (a := a) (k := k) (cs := cs) (w := w) he hres hinv
  have hcall := hseq (w.heap.size + 1)
    (fun i W => I i W ∧ W.heap[w.heap.size + 1]? = some (.loop (rec .ready none)) ∧ W.heap[w.heap.size]? = some (.deferred (some [])))
    (fun i W => ∃ c, Ix i c W ∧ W.heap[w.heap.size + 1]? = some (.loop (rec .done (some c))) ∧ W.heap[w.heap.size]? = some (.deferred (some [])))
    (fun i ch W => Ip i ch W ∧ W.heap[w.heap.size]? = some (.deferred (some [])))
    W1
    (fun i A B ⟨h1, h2, h3⟩ hx => ⟨hIe i A B h1 hx, hx.heap h2, hx.heap h3⟩)
    (fun i A B ⟨c, h1, h2, h3⟩ hx => ⟨c, hIxe i c A B h1 hx, hx.heap h2, hx.heap h3⟩)
    (fun i A h => hIs i A h.1)
    ?_ ⟨hI1, hL1, hK1⟩
  · have hroom : Fence.wide.room ((b.atR { a with defers := [{ target := .collected w.heap.size, args := #[] }] ++ a.defers } (.inRangeFunc (w.heap.size + 1) :: k) :: cs).length + 1 + 0) := room_wide _
    obtain ⟨e, w₃, fr, hR, hsteps, hfn, hleave⟩ := hcall.2 (b.atR { a with defers := [{ target := .collected w.heap.size, args := #[] }] ++ a.defers } (.inRangeFunc (w.heap.size + 1) :: k) :: cs) hroom
    rcases hR with ⟨⟨v, rfl⟩, hR⟩ | ⟨i, ch, hi, rfl, hp, hD⟩
    · have hl : (lone fr (b.atR { a with defers := [{ target := .collected w.heap.size, args := #[] }] ++ a.defers } (.inRangeFunc (w.heap.size + 1) :: k) :: cs) w₃).fenced P Fence.wide := fenced_leaving trivial hroom hleave
      have fin : ∀ (jump : Option Code) (st : LoopState), st ≠ .busy → w₃.heap[w.heap.size + 1]? = some (.loop (rec st jump)) →
          StepsIn (Machine.fenced P Fence.wide) P (lone (b.atR a (.code (.rangeFunc g ps assign body) :: k)) cs w)
            (lone (b.atR { a with defers := [{ target := .collected w.heap.size, args := #[] }] ++ a.defers } ((jump.map Item.code).toList ++ k)) cs (w₃.putObj (w.heap.size + 1) (.loop (rec .exhausted jump)))) := by
        intro jump st hst hl3
        have hend := run_endLoop (P := P) hl3 (by rw [hrec]; exact hst)
        rw [hrec] at hend
        refine .head h0' henter (StepsIn.trans hsteps (.head hl ?_ (.one (fenced_calm (fr := b.atR { a with defers := [{ target := .collected w.heap.size, args := #[] }] ++ a.defers } (.endRangeFunc (w.heap.size + 1) :: k)) trivial (n := 0) (room_wide _) rfl) (stepR_endRangeFunc (by rw [hrec]; exact hend)))))
        rw [← finish_atR_inRangeFunc (w.heap.size + 1) v]; exact step_leave_returned hleave
      rcases hR with ⟨hi, hL, hD⟩ | ⟨i, hlt, c, hi, hL, hD⟩
      · exact ⟨.normal, _, _, hdone _ (hIu _ _ _ hi (hput _ _)) ((World.putObj_heap_other (by omega)).trans hD), fin none _ (by simp) hL⟩
      · obtain ⟨e', a'', w₅, hq, harr⟩ := (wpIn_wide (n := 0)).2 (hstop i c _ hlt (hIxu _ _ _ _ hi (hput _ (.loop (rec .exhausted (some c))))) ((World.putObj_heap_other (by omega)).trans hD)) b k cs hro trivial (room_wide _)
        exact ⟨e', a'', w₅, hq, .of_steps (fin (some c) _ (by simp) hL) harr⟩
    · have hl : (lone fr (b.atR { a with defers := [{ target := .collected w.heap.size, args := #[] }] ++ a.defers } (.inRangeFunc (w.heap.size + 1) :: k) :: cs) w₃).fenced P Fence.wide := fenced_leaving trivial hroom hleave
      refine ⟨.panic ch, _, w₃, hpanic i ch w₃ hi hp hD, .inRangeFunc (w.heap.size + 1) :: k, .head h0' henter (StepsIn.trans hsteps (.one hl ?_))⟩
      rw [List.singleton_append, ← Frame.raise_atR]; exact step_leave_panicked hleave
  · rintro i W ⟨hi, hl, hD⟩ hlt
    have hsz : w.heap.size + 1 < W.heap.size := (Array.getElem?_eq_some_iff.1 hl).1
    have hy := run_yield (P := P) (args := encs i) hl (by rw [hrec]; exact hps i)
    rw [hrec] at hy
    refine ⟨b.fn, _, assign, body, hy, roundIn_panics (by rw [hb]; exact hf) (wpIn_mono (hround i W hi (by omega) hlt) ?_)⟩
    rintro e a' W' hp
    cases e with
    | exit id => exact hp.elim
    | goto t => exact hp.elim
    | ret => exact hp.elim
    | panic ch => exact hp.elim
    | outgrown => exact hp.elim
    | normal =>
      obtain ⟨hD', hl', hbody⟩ := hp
      rw [hl] at hl'
      rw [hD] at hD'
      have hsz' : w.heap.size + 1 < W'.heap.size := (Array.getElem?_eq_some_iff.1 hl').1
      refine ⟨_, run_beginRound hl' (by rw [hrec]), wpIn_mono (hbody _ (hput _ _) (by simp [World.putObj])) ?_⟩
      have hl2 : (W'.putObj (w.heap.size + 1) (.loop { rec .ready none with state := .busy })).heap[w.heap.size + 1]? = some (.loop { rec .ready none with state := .busy }) := World.putObj_heap_same hsz'
      have hD2 : (W'.putObj (w.heap.size + 1) (.loop { rec .ready none with state := .busy })).heap[w.heap.size]? = some (.deferred (some [])) := (World.putObj_heap_other (by omega)).trans hD'
      generalize W'.putObj (w.heap.size + 1) (.loop { rec .ready none with state := .busy }) = W2 at hl2 hD2
      have fin : ∀ (jump : Option Code) (W3 : World), W3.heap[w.heap.size]? = W2.heap[w.heap.size]? → W3.heap[w.heap.size + 1]? = W2.heap[w.heap.size + 1]? →
          (Instr.endRound (w.heap.size + 1) jump).run P W3 = .ok (.bool jump.isNone) (W3.putObj (w.heap.size + 1) (.loop (rec (if jump.isNone then .ready else .done) jump))) ∧
          (W3.putObj (w.heap.size + 1) (.loop (rec (if jump.isNone then .ready else .done) jump))).heap[w.heap.size + 1]? = some (.loop (rec (if jump.isNone then .ready else .done) jump)) ∧
          (W3.putObj (w.heap.size + 1) (.loop (rec (if jump.isNone then .ready else .done) jump))).heap[w.heap.size]? = some (.deferred (some [])) := fun jump W3 hd3 hl3 => by
        rw [hl2] at hl3
        rw [hD2] at hd3
        have := run_endRound (P := P) jump hl3
        rw [hrec] at this hl3 ⊢
        exact ⟨this, World.putObj_heap_same (Array.getElem?_eq_some_iff.1 hl3).1, (World.putObj_heap_other (by omega)).trans hd3⟩
      rintro e a3 W3 hp
      cases e with
      | normal =>
        obtain ⟨hd3, hk3, hi3⟩ := hp
        obtain ⟨hr, hl4, hk4⟩ := fin none W3 hd3 hk3
        exact ⟨_, _, hr, .inl ⟨rfl, hIu _ _ _ hi3 (hput _ _), hl4, hk4⟩⟩
      | ret =>
        obtain ⟨hd3, hk3, hi3⟩ := hp
        obtain ⟨hr, hl4, hk4⟩ := fin (some .ret) W3 hd3 hk3
        exact ⟨_, _, hr, .inr (.inl ⟨rfl, .ret, hIxu _ _ _ _ hi3 (hput _ _), hl4, hk4⟩)⟩
      | exit id =>
        obtain ⟨hd3, hk3, hi3⟩ := hp
        obtain ⟨hr, hl4, hk4⟩ := fin (some (.exit id)) W3 hd3 hk3
        exact ⟨_, _, hr, .inr (.inl ⟨rfl, .exit id, hIxu _ _ _ _ hi3 (hput _ _), hl4, hk4⟩)⟩
      | goto t =>
        obtain ⟨hd3, hk3, hi3⟩ := hp
        obtain ⟨hr, hl4, hk4⟩ := fin (some (.goto t)) W3 hd3 hk3
        exact ⟨_, _, hr, .inr (.inl ⟨rfl, .goto t, hIxu _ _ _ _ hi3 (hput _ _), hl4, hk4⟩)⟩
      | panic ch =>
        obtain ⟨hd3, ha3, hi3⟩ := hp
        exact ⟨ha3, .inr (.inr ⟨ch, rfl, hi3, by rw [hd3]; exact hD2⟩)⟩
      | outgrown => exact hp.elim
end

/-! A region of a round that draws its order and only reads: the plain walk serves. -/
def noDefer (o : Oper) : Bool := match o.op with | .defer _ => false | _ => true
theorem noDefer_spec {o : Oper} (h : noDefer o = true) (c : Call) : o.op ≠ .defer c := by
  intro e
  simp [noDefer, e] at h
section
variable {P : Program} {ops : Array Oper} {md : Region.Mode} {C : World → Prop} {r : Nat}
theorem wpIn_round_of_quiet {o : Oper} {a : Act} {K : Act → Prop} {K' : Act → World → Prop} {Q' : Exit → Act → World → Prop} {w : World} (hnd : noDefer o = true) (hw : C w) (h : ∀ a w', C w' → K a → K' a w')
    (hh : o.quiet P a C K) : o.wpIn (Fence.wide.inRound r) 0 P a w K' Q' := by
  obtain ⟨v, h1, h2⟩ := hh
  have h3 := h1 w hw
  unfold Oper.quietAt at h3
  unfold Oper.wpIn
  refine ⟨fun _ _ => trivial, ?_⟩
  rw [Oper.semAt_eq _ _ _ (noDefer_spec hnd)]
  generalize (execOp a.eval o).run P w = r at *
  cases r with
  | ok x w' =>
    cases x <;> simp only [Oper.quietUpon] at h3 <;> simp only [Oper.uponIn]
    case value u =>
      obtain ⟨e1, e2⟩ := h3
      rw [e1, e2]
      exact h _ _ hw h2
    case skip =>
      obtain ⟨e1, e2⟩ := h3
      rw [e1, ← e2]
      exact h _ _ hw h2
    case enter f args =>
      obtain ⟨e1, hc⟩ := h3
      rw [e1]
      exact ⟨fun h0 => (by simp [Fence.wide, Fence.inRound] at h0), ((callsIn_wide (n := 0)).2 hc).mono fun e w'' ⟨he, hw''⟩ => by subst he; exact h _ _ hw'' h2⟩
  | halt x w' => simp only [Oper.quietUpon] at h3
theorem wpOpIn_round_of_qOp {i : Nat} {a : Act} {K : Act → Prop} {K' : Act → World → Prop} {Q' : Exit → Act → World → Prop} {w : World} (hnd : ops.all noDefer = true) (hC : C w) (h : ∀ a w', C w' → K a → K' a w')
    (hh : qOp P ops C i K a) : wpOpIn (Fence.wide.inRound r) 0 P ops Q' i K' a w := by
  unfold qOp at hh
  unfold wpOpIn
  split
  · rename_i ho; simp only [ho] at hh; exact h _ _ hC hh
  · rename_i o ho
    simp only [ho] at hh
    split
    · rename_i hw
      simp only [hw, if_true] at hh
      refine wpIn_round_of_quiet ?_ hC h hh
      obtain ⟨hlt, he⟩ := Array.getElem?_eq_some_iff.1 ho
      rw [← he]
      exact Array.all_eq_true.1 hnd i hlt
    · rename_i hw; simp only [hw] at hh; exact ⟨fun _ _ => trivial, h _ _ hC hh⟩
theorem wpAnyIn_round_of_quiet {Q : Act → Prop} {Q' : Exit → Act → World → Prop} (hnd : ops.all noDefer = true) (hQ : ∀ a w, C w → Q a → Q' .normal a w) : ∀ (fuel : Nat) (listed : Array Bool) (a : Act) (w : World), C w →
    wpAnyQ P md ops C Q fuel listed a → wpAnyIn (Fence.wide.inRound r) 0 P md ops Q' fuel listed a w
  | 0, _, _, _, hw, h => ⟨h.1, hQ _ _ hw h.2⟩
  | fuel + 1, _, _, _, hw, h => ⟨fun h0 => hQ _ _ hw (h.1 h0), fun i hi => wpOpIn_round_of_qOp hnd hw (fun a' w' hw' => wpAnyIn_round_of_quiet hnd hQ fuel _ a' w' hw') (h.2 i hi)⟩
theorem wpIn_round_quiet {id : Nat} {Q : Exit → Act → World → Prop} {a : Act} {w : World} {l : List Oper} (hnd : l.toArray.all noDefer = true) (hm : P.follows .mixedOrders = true) (hB : Region.lexB .any l.toArray = true)
    (h : wpQuiet P l.toArray (fun w' => ∃ n, w' = w.drewN n) (fun a' => ∀ w', (∃ n, w' = w.drewN n) → Q .normal a' w') l a) : (Code.region id l.toArray true).wpIn (Fence.wide.inRound r) 0 P Q a w := by
  simp only [Region.lexB, Bool.and_eq_true] at hB
  refine wpIn_region_any hm (wpAnyIn_round_of_quiet (C := fun w' => ∃ n, w' = w.drewN n) (Q := fun a' => ∀ w', (∃ n, w' = w.drewN n) → Q .normal a' w') hnd (fun _ w' hw' h => h w' hw') _ _ _ _ ⟨1, rfl⟩ ?_)
  have := wpAnyQ_lex (P := P) (ops := l.toArray) (C := fun w' => ∃ n, w' = w.drewN n) (Q := fun a' => ∀ w', (∃ n, w' = w.drewN n) → Q .normal a' w') (md := .any) hB.1 l 0 (Array.replicate l.toArray.size false) a (by simp) (by simpa using hB.2) h
  simpa using this
/-- A region of a round that draws its order: the plain words on orders serve, where nothing runs out of memory and no row is called. -/
theorem wpIn_round_of_plain {o : Oper} {a : Act} {K : Act → World → Prop} {Q : Exit → Act → World → Prop} {w : World} (hnd : noDefer o = true)
    (hh : o.wp P a w K Q) : o.wpIn (Fence.wide.inRound r) 0 P a w K Q := by
  unfold Oper.wp at hh
  unfold Oper.wpIn
  refine ⟨fun _ _ => trivial, ?_⟩
  rw [Oper.semAt_eq _ _ _ (noDefer_spec hnd)]
  generalize (execOp a.eval o).run P w = res at *
  cases res with
  | ok x w' =>
    cases x <;> simp only [Oper.upon] at hh <;> simp only [Oper.uponIn]
    case value u => exact hh
    case skip => exact hh
    case defer d => exact hh
    case enter f args =>
      exact ⟨fun h0 => (by simp [Fence.wide, Fence.inRound] at h0), (callsIn_wide (n := 0)).2 hh⟩
    case row row args => exact ⟨fun h0 => (by simp [Fence.wide, Fence.inRound] at h0), fun c cs _ => let ⟨v, w'', hR, hs⟩ := hh c cs; ⟨v, w'', hR, stepsIn_wide.2 hs⟩⟩
  | halt x w' => cases x <;> simp only [Oper.upon] at hh <;> simp only [Oper.uponIn] <;> exact hh
theorem wpAnyIn_round_of_plain {Q : Exit → Act → World → Prop} (hnd : ops.all noDefer = true) (hQ : ¬ LetsOut Q) : ∀ (fuel : Nat) (listed : Array Bool) (a : Act) (w : World),
    wpAny P md ops Q fuel listed a w → wpAnyIn (Fence.wide.inRound r) 0 P md ops Q fuel listed a w
  | 0, _, _, _, h => h
  | fuel + 1, listed, a, w, h => ⟨h.1, fun i hi => by
      have hh := h.2 i hi
      unfold wpOp at hh
      unfold wpOpIn
      split
      · rename_i ho; simp only [ho] at hh; exact wpAnyIn_round_of_plain hnd hQ fuel _ _ _ hh
      · rename_i o ho
        simp only [ho] at hh
        split
        · rename_i hw
          simp only [hw, if_true] at hh
          obtain ⟨hlt, he⟩ := Array.getElem?_eq_some_iff.1 ho
          refine Oper.wpIn_mono (fun a' w' h' => wpAnyIn_round_of_plain hnd hQ fuel _ a' w' h') (wpIn_round_of_plain ?_ (hh.resolve_right fun h' => hQ h'.2))
          rw [← he]
          exact Array.all_eq_true.1 hnd i hlt
        · rename_i hw; simp only [hw] at hh; exact ⟨fun _ _ => trivial, wpAnyIn_round_of_plain hnd hQ fuel _ _ _ hh⟩⟩
theorem wpOp_here {Q : Exit → Act → World → Prop} {i : Nat} {o : Oper} {K : Act → World → Prop} {a : Act} {w : World} (ho : ops[i]? = some o) (hw : Region.wanted o (yielded ops a.tmps) = true)
    (h : ∀ K' : Act → World → Prop, (∀ a w, K a w → K' a w) → o.wp P a w K' Q) : wpOp P ops Q i K a w := by
  unfold wpOp
  simp only [ho, hw, if_true]
  exact .inl (h _ fun _ _ h => h)
theorem wpAnyH_one {Q : Exit → Act → World → Prop} {S : World → Prop} {i : Nat} {o : Oper} {fuel : Nat} {listed : Array Bool} {a : Act} {w : World} (ho : ops[i]? = some o) (hr : Region.ready md ops listed = [i]) (hw : Region.wanted o (yielded ops a.tmps) = true)
    (h : ∀ K' : Act → World → Prop, (∀ a' w', S w' → wpAnyH P md ops Q S fuel (listed.setIfInBounds i true) a' w' → K' a' w') → o.wp P a w K' Q) : wpAnyH P md ops Q S (fuel + 1) listed a w := by
  refine wpAnyH_all hr (by simp) (fun j hj => ?_)
  obtain rfl : j = i := by simpa using hj
  exact wpOp_here ho hw fun K' hK => h K' fun a' w' h1 h2 => hK a' w' ⟨h1, h2⟩
theorem wpAnyH_two {Q : Exit → Act → World → Prop} {S : World → Prop} {i j : Nat} {o o' : Oper} {fuel : Nat} {listed : Array Bool} {a : Act} {w : World} (ho : ops[i]? = some o) (ho' : ops[j]? = some o') (hr : Region.ready md ops listed = [i, j])
    (hw : Region.wanted o (yielded ops a.tmps) = true) (hw' : Region.wanted o' (yielded ops a.tmps) = true)
    (h : ∀ K' : Act → World → Prop, (∀ a' w', S w' → wpAnyH P md ops Q S fuel (listed.setIfInBounds i true) a' w' → K' a' w') → o.wp P a w K' Q)
    (h' : ∀ K' : Act → World → Prop, (∀ a' w', S w' → wpAnyH P md ops Q S fuel (listed.setIfInBounds j true) a' w' → K' a' w') → o'.wp P a w K' Q) : wpAnyH P md ops Q S (fuel + 1) listed a w := by
  refine wpAnyH_all hr (by simp) (fun k hk => ?_)
  have hk' : k = i ∨ k = j := by simpa using hk
  rcases hk' with rfl | rfl
  · exact wpOp_here ho hw fun K' hK => h K' fun a' w' h1 h2 => hK a' w' ⟨h1, h2⟩
  · exact wpOp_here ho' hw' fun K' hK => h' K' fun a' w' h1 h2 => hK a' w' ⟨h1, h2⟩
theorem grownBy_ext {a b : World} (h : Ext a b) (row : Option Nat) : a.grownBy b row := ⟨h.os, h.tape, h.output, h.size, fun i hi _ => h.block hi⟩
theorem wp_append_at {o : Oper} {a : Act} {K : Act → World → Prop} {Q : Exit → Act → World → Prop} {w : World} (s x : Operand) (t : TypeId) (ho : o.op = .call { callee := .builtin .append, args := #[s, x], argTypes := #[t, t] })
    (vs vx : Value) (hs : a.eval s = vs) (hx : a.eval x = vx) {v' : Value} {w' : World} (hr : (Builtin.append_ #[t, t] o.type #[vs, vx]).run P w = .ok v' w') (h : K (a.put o.dst v') w') : o.wp P a w K Q := by
  unfold Oper.wp execOp
  simp only [ho, resolve, invoke, builtin, Sem.run_bind, Sem.run_pure, Result.andThen_ok, List.map_toArray, List.map_cons, List.map_nil, hs, hx, hr]
  exact h
theorem wpIn_round_held {id : Nat} {Q : Exit → Act → World → Prop} {a : Act} {w : World} (S : World → Prop) (hnd : ops.all noDefer = true) (hQ : ¬ LetsOut Q) (hm : P.follows .mixedOrders = true)
    (h : wpAnyH P .any ops Q S ops.size (Array.replicate ops.size false) a { w with drawn := w.drawn + 1 }) : (Code.region id ops true).wpIn (Fence.wide.inRound r) 0 P Q a w :=
  wpIn_region_any hm (wpAnyIn_round_of_plain hnd hQ _ _ _ _ (wpAny_of_held _ _ _ _ h))
end
end
section
open Go.RowKit
set_option linter.unusedVariables false
set_option maxRecDepth 20000
set_option linter.unusedSimpArgs false
set_option linter.unusedSectionVars false
set_option maxRecDepth 20000

theorem alloc_at (W : World) (o : Obj) (E : Nat) (h : W.heap.size = E) : (W.alloc o).heap[E]? = some o := by subst h; exact World.alloc_heap_new _ _
theorem grown_heap {w w' : World} {row : Option Nat} (h : w.grownBy w' row) {N : Nat} {o : Obj} (hN : w.heap[N]? = some o) (hne : row ≠ some N) : w'.heap[N]? = some o :=
  (h.block N (Array.getElem?_eq_some_iff.1 hN).1 (fun e => hne e.symm)).trans hN
/-- an empty row -/
theorem own0G {α : Type} {cs : α → List Value} {e : TypeId} {k : Nat} {W : World} {base E : Nat} (hE : W.heap[E]? = some (.cells #[] e (0, 0))) (hb : base ≤ E) : OwnG cs e k W base (.slice (some ⟨E, 0, none⟩) 0 0) [] :=
  ⟨by simp, .inr ⟨E, 0, #[], rfl, hb, hE, by simp, by simp [maxLen], by simp, by simp⟩⟩
section
variable {α : Type} {cs : α → List Value} {t e : TypeId} {k bytes : Nat} {w : World} {ops : Array Oper} {o : Oper} {a : Act} {K : Act → World → Prop} {Q : Exit → Act → World → Prop} {F : Prop}
/-- an append of a list, at a step of a region that draws -/
theorem step_app_G (w0 : World) (E : ElemG cs t e k bytes) (hgd : o.guard = none) (s x : Operand) (ho : o.op = .call { callee := .builtin .append, args := #[s, x], argTypes := #[t, t] }) (v : Value) (l m : List α) (n : Nat) (P : Option Addr) (cap : Nat)
    (hs : a.eval s = v) (hx : a.eval x = .slice P n cap) (hn : m.length = n) (hown : OwnG cs e k w w0.heap.size v l) (hm : SlG cs w P cap m) (hP : P = none → cap = 0) (hl : (l.length + n) * bytes ≤ 140737488355328) (hlb : l.length + n ≤ 9223372036854775807) (hx0 : Ext w0 w)
    (h : ∀ v' w', OwnG cs e k w' w0.heap.size v' (l ++ m) → Ext w0 w' → w.grownBy w' v.ownBlock → K (a.put o.dst v') w') : if Region.wanted o (yielded ops a.tmps) = true then Oper.wp Try.prog o a w K Q else F := by
  rw [if_pos (by simp [Region.wanted, hgd])]
  subst hn
  obtain ⟨v', w', hr, h1, h2, h3⟩ := hown.append E o.type hm hP hl hlb hx0.size
  exact wp_append_at s x t ho v _ hs hx hr (h v' w' h1 (below_ext hx0 h3 (Nat.le_refl _)) h2)
/-- an append of a list to a new empty row, at a step of a region that draws -/
theorem step_app_freshG (w0 : World) (E : ElemG cs t e k bytes) (hgd : o.guard = none) (s x : Operand) (ho : o.op = .call { callee := .builtin .append, args := #[s, x], argTypes := #[t, t] }) (B : Nat) (m : List α) (n : Nat) (P : Option Addr) (cap : Nat)
    (hs : a.eval s = .slice (some ⟨B, 0, none⟩) 0 0) (hx : a.eval x = .slice P n cap) (hn : m.length = n) (hB : w.heap[B]? = some (.cells #[] e (0, 0))) (hbB : w0.heap.size ≤ B) (hm : SlG cs w P cap m) (hP : P = none → cap = 0) (hl : n * bytes ≤ 140737488355328) (hlb : n ≤ 9223372036854775807) (hx0 : Ext w0 w)
    (h : ∀ v' w', OwnG cs e k w' w0.heap.size v' m → Ext w0 w' → w.grownBy w' (some B) → K (a.put o.dst v') w') : if Region.wanted o (yielded ops a.tmps) = true then Oper.wp Try.prog o a w K Q else F :=
  step_app_G w0 E hgd s x ho _ [] m n P cap hs hx hn (own0G hB hbB) hm hP (by simpa using hl) (by simpa using hlb) hx0 (fun v' w' h1 h2 h3 => h v' w' (by simpa using h1) h2 h3)
theorem SlG.block1 (hk : ∀ x, (cs x).length = k) {g : Nat} (x : α) {C : Array Value} (hC : C = (cs x).toArray) (h : w.heap[g]? = some (.cells C e (0, 0))) : SlG cs w (some ⟨g, 0, none⟩) 1 [x] := by
  subst hC
  refine ⟨fun i y hi => ⟨g, 0, rfl, fun j u hj => ?_⟩, by simp, by omega⟩
  match i, hi with
  | 0, hi =>
    simp at hi
    subst hi
    rw [show (0 : Nat) + 0 * (cs x).length + j = j from by omega]
    unfold World.cell?
    simp only [h]
    simpa using hj
  | i + 1, hi => simp at hi
theorem SlG.takes {P : Option Addr} {c : Nat} {l : List α} (h : SlG cs w P c l) (n : Nat) : SlG cs w P c (l.take n) := by
  have := h.le
  refine ⟨fun i x hi => ?_, by rw [List.length_take]; omega, h.cap⟩
  refine h.at_ i x ?_
  rw [List.getElem?_take] at hi
  split at hi
  · exact hi
  · cases hi
theorem SlG.drops (hk : ∀ x, (cs x).length = k) {b off c : Nat} {l : List α} (h : SlG cs w (some ⟨b, off, none⟩) c l) (n : Nat) (hn : n ≤ l.length) : SlG cs w (some ⟨b, off + n * k, none⟩) (c - n) (l.drop n) := by
  have := h.le
  have := h.cap
  refine ⟨fun i x hi => ⟨b, off + n * k, rfl, fun j v hj => ?_⟩, by rw [List.length_drop]; omega, by omega⟩
  rw [List.getElem?_drop] at hi
  obtain ⟨b', off', e, hc⟩ := h.at_ (n + i) x hi
  simp only [Option.some.injEq, Addr.mk.injEq, and_true] at e
  obtain ⟨rfl, rfl⟩ := e
  have := hc j v hj
  rw [hk] at this ⊢
  rw [← this, Nat.add_mul]
  congr 2
  omega
theorem SlG.from (hk : ∀ x, (cs x).length = k) {b off c : Nat} {l : List α} (h : SlG cs w (some ⟨b, off, none⟩) c l) (p : Nat) (hp : p ≤ l.length) : SlG cs w (some ⟨b, if c = p then off else off + p * k, none⟩) (c - p) (l.drop p) := by
  by_cases hc : c = p
  · rw [if_pos hc]
    have h1 := h.le
    have h2 : l.drop p = [] := List.drop_eq_nil_iff.2 (by omega)
    rw [h2]
    exact ⟨fun i x hi => by simp at hi, by simp, by omega⟩
  · rw [if_neg hc]; exact h.drops hk p hp
end
/-- a slice from p on, wherever it lies -/
theorem slice_fromG (b off len c p k : Nat) (hp : p ≤ len) (hc : len ≤ c) (T : TypeId) (hT : Try.prog.underlying T = some (.slice (Try.prog.elem T))) (hs : (Try.prog.info? (Try.prog.elem T)).map (·.size) = some k) :
    ∀ w, (Instr.slice T (.slice (some ⟨b, off, none⟩) len c) (some (.int .i64 p)) none none).run Try.prog w = .ok (.slice (some ⟨b, if c = p then off else off + p * k, none⟩) (len - p) (c - p)) w := by
  intro w
  rw [run_slice_l (w := w) T (some ⟨b, off, none⟩) len c hT .i64 p (by omega) (by omega)]
  cases hq : Try.prog.info? (Try.prog.elem T) with
  | none => simp [hq] at hs
  | some i =>
    have hi : i.size = k := by simpa [hq] using hs
    simp [sizeOf, typeInfo, hq, hi, sliced, Result.andThen]
    by_cases h : c = p
    · simp [h]
    · simp [h, Go.WideShapes.add_plain]
end
section
open Go.RowKit
set_option linter.unusedVariables false
set_option maxRecDepth 20000

abbrev Cel := Int × ByteArray
/-- The slice value 'A, n' reads as the cells f 0, .., f (n - 1). -/
structure SlC (w : World) (A : Option Addr) (n : Nat) (f : Nat → Cel) : Prop where
  at_ : ∀ i, i < n → ∃ b off, A = some ⟨b, off, none⟩ ∧ w.cell? ⟨b, off + i * 2, none⟩ = some (.int .i64 (f i).1) ∧ w.cell? ⟨b, off + i * 2 + 1, none⟩ = some (.string (f i).2)
theorem SlC.ext {w w' : World} {A : Option Addr} {n : Nat} {f : Nat → Cel} (h : SlC w A n f) (he : Ext w w') : SlC w' A n f :=
  ⟨fun i hi => by obtain ⟨b, off, e, h1, h2⟩ := h.at_ i hi; exact ⟨b, off, e, he.cell h1, he.cell h2⟩⟩
theorem SlC.drew {w : World} {A : Option Addr} {n : Nat} {f : Nat → Cel} (h : SlC w A n f) : SlC w.drew A n f := ⟨h.at_⟩

def sizeB (n : Int) : Bool := decide (32 ≤ n) && decide (n ≤ 4096) && (n % 8 == 0)

def bytesF (f : Nat → Cel) : Nat → Nat
  | 0 => 0
  | n + 1 => bytesF f n + (f n).2.size
def lastF (f : Nat → Cel) (n : Nat) : Int := if n = 0 then 0 else (f (n - 1)).1



def roomF (size : Int) (f : Nat → Cel) (n : Nat) : Int := size - 2 - 4 * lastF f n - bytesF f n
theorem bytesF_le (f : Nat → Cel) (n : Nat) (hsz : ∀ i, i < n → (f i).2.size ≤ 140737488355328) : bytesF f n ≤ n * 140737488355328 := by
  induction n with
  | zero => simp [bytesF]
  | succ n ih =>
    have := ih (fun i hi => hsz i (by omega))
    have := hsz n (by omega)
    simp only [bytesF]; omega

/-- the two bytes of a number from 0 to 65535 -/
def hi8 (n : Nat) : UInt8 := UInt8.ofNat (n / 256)
def lo8 (n : Nat) : UInt8 := UInt8.ofNat (n % 256)
def ent (n : Nat) : List UInt8 := [hi8 n, lo8 n]

def twoF (p : ByteArray) (i : Nat) : Nat := 256 * bt p i + bt p (i + 1)
end
section
open Go.RowKit
set_option linter.unusedVariables false
set_option maxRecDepth 20000

/-- the buffer behind k cells -/
def bufF (size n : Nat) (f : Nat → Cel) : Nat → List UInt8
  | 0 => splice (List.replicate size 0) 0 (ent (lastF f n).toNat)
  | k + 1 => splice (splice (splice (bufF size n f k) (4 * (f k).1.toNat - 2) (ent (size - bytesF f (k + 1)))) (4 * (f k).1.toNat) (ent (f k).2.size)) (size - bytesF f (k + 1)) (f k).2.data.toList

/-- cells that are right and fit -/
structure Fit (size n : Nat) (f : Nat → Cel) : Prop where
  n_le : n ≤ 200
  size_le : size ≤ 4096
  size_ge : 32 ≤ size
  pos : ∀ i, i < n → 1 ≤ (f i).1
  le : ∀ i, i < n → (f i).1 ≤ lastF f n
  data : ∀ i, i < n → 0 < (f i).2.size
  room : 2 + 4 * lastF f n + bytesF f n ≤ size
theorem Fit.last0 {size n : Nat} {f : Nat → Cel} (h : Fit size n f) : 0 ≤ lastF f n := by
  unfold lastF
  by_cases h0 : n = 0
  · simp [h0]
  · rw [if_neg h0]; have := h.pos (n - 1) (by omega); omega
theorem bytesF_mono (f : Nat → Cel) {a b : Nat} (h : a ≤ b) : bytesF f a ≤ bytesF f b := by
  induction b with
  | zero => simp at h; subst h; exact Nat.le_refl _
  | succ b ih =>
    rcases Nat.lt_or_ge a (b + 1) with h1 | h1
    · have := ih (by omega); simp only [bytesF]; omega
    · have : a = b + 1 := by omega
      subst this; exact Nat.le_refl _
theorem length_bufF (size n : Nat) (f : Nat → Cel) (h : Fit size n f) : ∀ k, k ≤ n → (bufF size n f k).length = size := by
  have h0 : 2 ≤ size := by have := h.size_ge; omega
  intro k
  induction k with
  | zero => intro _; unfold bufF; rw [length_splice _ _ _ (by simp [ent]; omega)]; simp
  | succ k ih =>
    intro hk
    have ihk := ih (by omega)
    have h1 := h.pos k (by omega)
    have h2 := h.le k (by omega)
    have h3 := h.room
    have h4 := bytesF_mono f hk
    have h5 : bytesF f (k + 1) = bytesF f k + (f k).2.size := rfl
    unfold bufF
    have hd : (f k).2.data.toList.length = (f k).2.size := by simp
    have l1 : (splice (bufF size n f k) (4 * (f k).1.toNat - 2) (ent (size - bytesF f (k + 1)))).length = size := by
      rw [length_splice _ _ _ (by rw [ihk]; show _ + 2 ≤ size; omega)]; exact ihk
    have l2 : (splice (splice (bufF size n f k) (4 * (f k).1.toNat - 2) (ent (size - bytesF f (k + 1)))) (4 * (f k).1.toNat) (ent (f k).2.size)).length = size := by
      rw [length_splice _ _ _ (by rw [l1]; show _ + 2 ≤ size; omega)]; exact l1
    rw [length_splice _ _ _ (by rw [hd, l2]; omega)]; exact l2
end
end Go.Proofs.Ytcbainmpikcfjaa

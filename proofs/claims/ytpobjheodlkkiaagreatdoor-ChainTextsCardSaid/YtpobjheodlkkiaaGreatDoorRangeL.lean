/- The law of a range over a function once more: what the rounds keep need abide only the loop's own record. -/
import Derived.Test.YtpobjheodlkkiaaGreatDoorRange
namespace Go.Proofs.YtpobjheodlkkiaaGreatDoor
open Go.RowKit
set_option linter.unusedVariables false
set_option maxRecDepth 20000
section
variable {P : Program} {Q : Exit → Act → World → Prop} {a : Act} {w : World} {f : FuncId}

/-- The statement: a range over a function that has its contract. -/
theorem wpAt_rangeFunc2 {g : Operand} {ps : Array Tmp} {assign body : Code} {fn : Func} (hf : P.funcs[f]? = some fn) {gf : Nat} {lb : Array Value}
    (hg : a.eval g = .func (.func gf) #[] lb) (eg : ∀ args w, (callFunc gf args).run P w = .ok (.enter gf args) w)
    {encs : Nat → Array Value} {N : Nat} {Kp : World → Prop} (hseq : SeqP P gf lb encs N Kp) (hps : ∀ i, (encs i).size = ps.size)
    (I : Nat → World → Prop) (Ix : Nat → Code → World → Prop) (Ip : Nat → List PanicEntry → World → Prop)
    (hIe : ∀ i A B, I i A → Ext A B → I i B) (hIxe : ∀ i c A B, Ix i c A → Ext A B → Ix i c B)
    (hIu : ∀ i A r r', I i A → A.heap[w.heap.size + 1]? = some (.loop r) → I i (A.putObj (w.heap.size + 1) (.loop r'))) (hIxu : ∀ i c A r r', Ix i c A → A.heap[w.heap.size + 1]? = some (.loop r) → Ix i c (A.putObj (w.heap.size + 1) (.loop r')))
    (hIs : ∀ i A, I i A → Kp A) (h0 : I 0 w)
    (hround : ∀ i W r, I i W → w.heap.size + 2 ≤ W.heap.size → W.heap[w.heap.size]? = some (.deferred (some [])) → W.heap[w.heap.size + 1]? = some (.loop r) → i < N →
      assign.wpIn (Fence.wide.inRound (w.heap.size + 1)) 0 P (Exit.then (fun a' W' => W'.heap[w.heap.size]? = W.heap[w.heap.size]? ∧ W'.heap[w.heap.size + 1]? = W.heap[w.heap.size + 1]? ∧
        ∀ W'' r', W'' = W'.putObj (w.heap.size + 1) (.loop r') → body.wpIn (Fence.wide.inRound (w.heap.size + 1)) 0 P (postP w.heap.size I Ix Ip i W'') a' W'') (fun _ _ _ => False))
        { tmps := (ps.zip (encs i)).foldl (fun t (p, v) => t.setIfInBounds p v) a.tmps, defers := [] } W)
    (hdone : ∀ W, I N W → W.heap[w.heap.size]? = some (.deferred (some [])) → Q .normal { a with defers := { target := .collected w.heap.size, args := #[] } :: a.defers } W)
    (hstop : ∀ i c W, i < N → Ix i c W → W.heap[w.heap.size]? = some (.deferred (some [])) → c.wp P Q { a with defers := { target := .collected w.heap.size, args := #[] } :: a.defers } W)
    (hpanic : ∀ i ch W, i < N → Ip i ch W → W.heap[w.heap.size]? = some (.deferred (some [])) → Q (.panic ch) { a with defers := { target := .collected w.heap.size, args := #[] } :: a.defers } W) :
    wpAt f P (Code.rangeFunc g ps assign body) Q a w := by
  intro b k cs hro hb
  obtain ⟨rec, hrec⟩ : ∃ rec : LoopState → Option Code → Loop, rec = fun st pe => { state := st, pending := pe, fn := b.fn, tmps := a.tmps, params := ps, assign, body, defers := w.heap.size } := ⟨_, rfl⟩
  obtain ⟨W1, hW1⟩ : ∃ W1, (w.alloc (.deferred (some []))).alloc (.loop (rec .ready none)) = W1 := ⟨_, rfl⟩
  have hL1 : W1.heap[w.heap.size + 1]? = some (.loop (rec .ready none)) := by
    rw [← hW1]; have := World.alloc_heap_new (w.alloc (.deferred (some []))) (.loop (rec .ready none)); rwa [World.size_alloc] at this
  have hK1 : W1.heap[w.heap.size]? = some (.deferred (some [])) := by
    rw [← hW1]; exact (Below.heap_alloc _ _ _ (by simp)).trans (World.alloc_heap_new w _)
  have hE1 : Ext w W1 := by rw [← hW1]; exact ((Ext.refl w).alloc _).alloc _
  have hI1 : I 0 W1 := hIe _ _ _ h0 hE1
  have he : (Instr.enterLoop b.fn a.tmps ps assign body b.roundOf).run P w = .ok (w.heap.size + 1, [{ target := .collected w.heap.size, args := #[] }]) W1 := by
    rw [hro, ← hW1, hrec]; exact run_enterLoop_outer _ _ _ _ _
  have hres : (resolve a.eval (rangeCall g (w.heap.size + 1)) 0).run P W1 = .ok { target := .fn (.func gf) lb, args := #[.func (.yield (w.heap.size + 1)) #[] #[]] } W1 := by
    simp only [resolve, hg]
    simp [go_sem]
  have hinv : (invoke (Target.fn (.func gf) lb) #[.func (.yield (w.heap.size + 1)) #[] #[]]).run P W1 = .ok (.enter gf (#[.func (.yield (w.heap.size + 1)) #[] #[]] ++ lb)) W1 := by
    simp [invoke, go_sem, eg]
  have h0' : (lone (b.atR a (.code (.rangeFunc g ps assign body) :: k)) cs w).fenced P Fence.wide :=
    fenced_lone (.inl trivial) (fun _ _ => trivial) (room_wide _)
  have henter := stepR_rangeFunc (P := P) (b := b) (a := a) (k := k) (cs := cs) (w := w) he hres hinv
  have hcall := hseq (w.heap.size + 1)
    (fun i W => I i W ∧ W.heap[w.heap.size + 1]? = some (.loop (rec .ready none)) ∧ W.heap[w.heap.size]? = some (.deferred (some [])))
    (fun i W => ∃ c, Ix i c W ∧ W.heap[w.heap.size + 1]? = some (.loop (rec .done (some c))) ∧ W.heap[w.heap.size]? = some (.deferred (some [])))
    (fun i ch W => Ip i ch W ∧ W.heap[w.heap.size]? = some (.deferred (some [])))
    W1
    (fun i A B ⟨h1, h2, h3⟩ hx => ⟨hIe i A B h1 hx, hx.heap h2, hx.heap h3⟩)
    (fun i A B ⟨c, h1, h2, h3⟩ hx => ⟨c, hIxe i c A B h1 hx, hx.heap h2, hx.heap h3⟩)
    (fun i A h => hIs i A h.1)
    ?_ ⟨hI1, hL1, hK1⟩
  · have hroom : Fence.wide.room ((b.atR { a with defers := [{ target := .collected w.heap.size, args := #[] }] ++ a.defers } (.inRangeFunc (w.heap.size + 1) :: k) :: cs).length + 1 + 0) := room_wide _
    obtain ⟨e, w₃, fr, hR, hsteps, hfn, hleave⟩ := hcall.2 (b.atR { a with defers := [{ target := .collected w.heap.size, args := #[] }] ++ a.defers } (.inRangeFunc (w.heap.size + 1) :: k) :: cs) hroom
    rcases hR with ⟨⟨v, rfl⟩, hR⟩ | ⟨i, ch, hi, rfl, hp, hD⟩
    · have hl : (lone fr (b.atR { a with defers := [{ target := .collected w.heap.size, args := #[] }] ++ a.defers } (.inRangeFunc (w.heap.size + 1) :: k) :: cs) w₃).fenced P Fence.wide := fenced_leaving trivial hroom hleave
      have fin : ∀ (jump : Option Code) (st : LoopState), st ≠ .busy → w₃.heap[w.heap.size + 1]? = some (.loop (rec st jump)) →
          StepsIn (Machine.fenced P Fence.wide) P (lone (b.atR a (.code (.rangeFunc g ps assign body) :: k)) cs w)
            (lone (b.atR { a with defers := [{ target := .collected w.heap.size, args := #[] }] ++ a.defers } ((jump.map Item.code).toList ++ k)) cs (w₃.putObj (w.heap.size + 1) (.loop (rec .exhausted jump)))) := by
        intro jump st hst hl3
        have hend := run_endLoop (P := P) hl3 (by rw [hrec]; exact hst)
        rw [hrec] at hend
        refine .head h0' henter (StepsIn.trans hsteps (.head hl ?_ (.one (fenced_calm (fr := b.atR { a with defers := [{ target := .collected w.heap.size, args := #[] }] ++ a.defers } (.endRangeFunc (w.heap.size + 1) :: k)) trivial (n := 0) (room_wide _) rfl) (stepR_endRangeFunc (by rw [hrec]; exact hend)))))
        rw [← finish_atR_inRangeFunc (w.heap.size + 1) v]; exact step_leave_returned hleave
      rcases hR with ⟨hi, hL, hD⟩ | ⟨i, hlt, c, hi, hL, hD⟩
      · exact ⟨.normal, _, _, hdone _ (hIu _ _ _ _ hi hL) ((World.putObj_heap_other (by omega)).trans hD), fin none _ (by simp) hL⟩
      · obtain ⟨e', a'', w₅, hq, harr⟩ := (wpIn_wide (n := 0)).2 (hstop i c _ hlt (hIxu _ _ _ _ (rec .exhausted (some c)) hi hL) ((World.putObj_heap_other (by omega)).trans hD)) b k cs hro trivial (room_wide _)
        exact ⟨e', a'', w₅, hq, .of_steps (fin (some c) _ (by simp) hL) harr⟩
    · have hl : (lone fr (b.atR { a with defers := [{ target := .collected w.heap.size, args := #[] }] ++ a.defers } (.inRangeFunc (w.heap.size + 1) :: k) :: cs) w₃).fenced P Fence.wide := fenced_leaving trivial hroom hleave
      refine ⟨.panic ch, _, w₃, hpanic i ch w₃ hi hp hD, .inRangeFunc (w.heap.size + 1) :: k, .head h0' henter (StepsIn.trans hsteps (.one hl ?_))⟩
      rw [List.singleton_append, ← Frame.raise_atR]; exact step_leave_panicked hleave
  · rintro i W ⟨hi, hl, hD⟩ hlt
    have hsz : w.heap.size + 1 < W.heap.size := (Array.getElem?_eq_some_iff.1 hl).1
    have hy := run_yield (P := P) (args := encs i) hl (by rw [hrec]; exact hps i)
    rw [hrec] at hy
    refine ⟨b.fn, _, assign, body, hy, roundIn_panics (by rw [hb]; exact hf) (wpIn_mono (hround i W _ hi (by omega) hD hl hlt) ?_)⟩
    rintro e a' W' hp
    cases e with
    | exit id => exact hp.elim
    | goto t => exact hp.elim
    | ret => exact hp.elim
    | panic ch => exact hp.elim
    | outgrown => exact hp.elim
    | normal =>
      obtain ⟨hD', hl', hbody⟩ := hp
      rw [hl] at hl'
      rw [hD] at hD'
      have hsz' : w.heap.size + 1 < W'.heap.size := (Array.getElem?_eq_some_iff.1 hl').1
      refine ⟨_, run_beginRound hl' (by rw [hrec]), wpIn_mono (hbody _ _ rfl) ?_⟩
      have hl2 : (W'.putObj (w.heap.size + 1) (.loop { rec .ready none with state := .busy })).heap[w.heap.size + 1]? = some (.loop { rec .ready none with state := .busy }) := World.putObj_heap_same hsz'
      have hD2 : (W'.putObj (w.heap.size + 1) (.loop { rec .ready none with state := .busy })).heap[w.heap.size]? = some (.deferred (some [])) := (World.putObj_heap_other (by omega)).trans hD'
      generalize W'.putObj (w.heap.size + 1) (.loop { rec .ready none with state := .busy }) = W2 at hl2 hD2
      have fin : ∀ (jump : Option Code) (W3 : World), W3.heap[w.heap.size]? = W2.heap[w.heap.size]? → W3.heap[w.heap.size + 1]? = W2.heap[w.heap.size + 1]? →
          (Instr.endRound (w.heap.size + 1) jump).run P W3 = .ok (.bool jump.isNone) (W3.putObj (w.heap.size + 1) (.loop (rec (if jump.isNone then .ready else .done) jump))) ∧
          (W3.putObj (w.heap.size + 1) (.loop (rec (if jump.isNone then .ready else .done) jump))).heap[w.heap.size + 1]? = some (.loop (rec (if jump.isNone then .ready else .done) jump)) ∧
          (W3.putObj (w.heap.size + 1) (.loop (rec (if jump.isNone then .ready else .done) jump))).heap[w.heap.size]? = some (.deferred (some [])) := fun jump W3 hd3 hl3 => by
        rw [hl2] at hl3
        rw [hD2] at hd3
        have := run_endRound (P := P) jump hl3
        rw [hrec] at this hl3 ⊢
        exact ⟨this, World.putObj_heap_same (Array.getElem?_eq_some_iff.1 hl3).1, (World.putObj_heap_other (by omega)).trans hd3⟩
      rintro e a3 W3 hp
      cases e with
      | normal =>
        obtain ⟨hd3, hk3, hi3⟩ := hp
        obtain ⟨hr, hl4, hk4⟩ := fin none W3 hd3 hk3
        exact ⟨_, _, hr, .inl ⟨rfl, hIu _ _ _ _ hi3 (hk3.trans hl2), hl4, hk4⟩⟩
      | ret =>
        obtain ⟨hd3, hk3, hi3⟩ := hp
        obtain ⟨hr, hl4, hk4⟩ := fin (some .ret) W3 hd3 hk3
        exact ⟨_, _, hr, .inr (.inl ⟨rfl, .ret, hIxu _ _ _ _ _ hi3 (hk3.trans hl2), hl4, hk4⟩)⟩
      | exit id =>
        obtain ⟨hd3, hk3, hi3⟩ := hp
        obtain ⟨hr, hl4, hk4⟩ := fin (some (.exit id)) W3 hd3 hk3
        exact ⟨_, _, hr, .inr (.inl ⟨rfl, .exit id, hIxu _ _ _ _ _ hi3 (hk3.trans hl2), hl4, hk4⟩)⟩
      | goto t =>
        obtain ⟨hd3, hk3, hi3⟩ := hp
        obtain ⟨hr, hl4, hk4⟩ := fin (some (.goto t)) W3 hd3 hk3
        exact ⟨_, _, hr, .inr (.inl ⟨rfl, .goto t, hIxu _ _ _ _ _ hi3 (hk3.trans hl2), hl4, hk4⟩)⟩
      | panic ch =>
        obtain ⟨hd3, ha3, hi3⟩ := hp
        exact ⟨ha3, .inr (.inr ⟨ch, rfl, hi3, by rw [hd3]; exact hD2⟩)⟩
      | outgrown => exact hp.elim
end

end Go.Proofs.YtpobjheodlkkiaaGreatDoor

/- Areas: play. -/
import Derived.Test.YtnileonlabpbpaaGreatQSpBR
import Derived.Test.YtnileonlabpbpaaGreatQSpBN
namespace Go.Proofs.YtnileonlabpbpaaGreat
open Go.RowKit
set_option linter.unusedVariables false
set_option linter.unusedSimpArgs false
set_option linter.unusedSectionVars false
set_option maxRecDepth 20000

set_option maxHeartbeats 40000000 in
theorem play_yes (size pages : Int) (PL : Option Addr) (capL : Nat) (L : List AcS) (w : World) (hsz : inI size) (hpg : inI pages) (hL : SlG csAc w PL capL L) (hok : ∀ x ∈ L, AcOk x) (hLn : L.length ≤ 1000) (hc : sizeB size = true ∧ 1 ≤ pages ∧ pages ≤ 200) :
    Calls Tryz.prog 10 #[.int .i64 size, .int .i64 pages, .slice PL L.length capL] w (PlayPost w) := by
  obtain ⟨sz, rfl⟩ : ∃ n : Nat, size = n := ⟨size.toNat, by have := hc.1; simp [sizeB] at this; omega⟩
  obtain ⟨pg, rfl⟩ : ∃ n : Nat, pages = n := ⟨pages.toNat, by omega⟩
  have hN := fun W => newArea_yes sz pg W hc.1 (by omega) (by omega)
  have hR := fun W => refNew7_yes sz pg W hc.1 (by omega) (by omega)
  clear hsz hpg hc
  generalize List.replicate pg (newP sz) = l0 at *
  go_enter Tryz.func10, Tryz.ntmps10
  go_wp2_with (first
    | (go_at_call 35; refine (hN _).mono ?_; rintro e w1 ⟨A, g, lv, cap, rfl, hS, hAl, hgl, hx1⟩)
    | (go_at_call 36; refine (hR _).mono ?_; rintro e w2 ⟨⟨v2, rfl, hn2⟩, hx2⟩; obtain ⟨g2, c2, rfl, hg2, hr2⟩ := hn2))
  have hB := FCell.new 30 w (.pointer none) (.int .i64 0) (.slice none 0 0) (.bool false) (.bool false)
  have hs0 : (w.alloc (.cells #[.pointer none, .int .i64 0, .slice none 0 0, .bool false, .bool false] 30)).heap.size = w.heap.size + 1 := by simp
  have hx0 := (Ext.refl w).alloc (.cells #[.pointer none, .int .i64 0, .slice none 0 0, .bool false, .bool false] 30)
  rw [hs0] at hAl hgl
  have hx3 := ((Ext.refl w2).alloc (.cells #[.int .i64 sz, .slice (some ⟨g2, 0, none⟩) l0.length c2] 28)).alloc (.cells #[.pointer (some ⟨A, 0, none⟩), .int .i64 sz, .slice (some ⟨g2, 0, none⟩) l0.length c2, .bool true, .bool true] 30)
  have hX := FCell.new 30 (w2.alloc (.cells #[.int .i64 sz, .slice (some ⟨g2, 0, none⟩) l0.length c2] 28)) (.pointer (some ⟨A, 0, none⟩)) (.int .i64 sz) (.slice (some ⟨g2, 0, none⟩) l0.length c2) (.bool true) (.bool true)
  rw [show (w2.alloc (.cells #[.int .i64 sz, .slice (some ⟨g2, 0, none⟩) l0.length c2] 28)).heap.size = w2.heap.size + 1 from by simp] at hX
  have hM : Mid (w.heap.size + 1) ((w2.alloc (.cells #[.int .i64 sz, .slice (some ⟨g2, 0, none⟩) l0.length c2] 28)).alloc (.cells #[.pointer (some ⟨A, 0, none⟩), .int .i64 sz, .slice (some ⟨g2, 0, none⟩) l0.length c2, .bool true, .bool true] 30)) (w2.heap.size + 1) A g sz cap l0 lv l0 (some ⟨g2, 0, none⟩) c2 := by
    have s1 := hS.ar.lt
    have s2 := hS.gl
    have s3 := hx2.size
    have s4 := hx1.size
    obtain ⟨b9, off9, e9, s5⟩ := hr2.known
    injection e9 with e9
    injection e9 with e9
    subst e9
    refine ⟨hS.ext (hx2.trans hx3), hr2.ext hx3, fun b off m e => ?_, by omega, by omega, by omega, by omega, by omega, by simp⟩
    injection e with e
    injection e with e
    subst e
    exact ⟨by omega, by omega, by omega, by omega⟩
  have hBx := hB.ext (hx1.trans (hx2.trans hx3))
  have hxW := hx0.trans (hx1.trans (hx2.trans hx3))
  have hXw : w.heap.size + 1 ≤ w2.heap.size + 1 := by have := hM.lx; exact this
  clear hN hR hS hr2 hB
  generalize (w2.alloc (.cells #[.int .i64 sz, .slice (some ⟨g2, 0, none⟩) l0.length c2] 28)).alloc (.cells #[.pointer (some ⟨A, 0, none⟩), .int .i64 sz, .slice (some ⟨g2, 0, none⟩) l0.length c2, .bool true, .bool true] 30) = W3 at *
  clear hx3 hs0 hAl hgl
  generalize w2.heap.size + 1 = X at *
  go_loopw [12] (fun i wr => ∃ k : Nat, k ≤ L.length ∧ i = .int .i64 k ∧ (∃ A g l lv cap P c ok, FCell 30 wr X (.pointer (some ⟨A, 0, none⟩)) (.int .i64 sz) (.slice P (List.length l) c) (.bool true) (.bool ok) ∧ Mid (w.heap.size + 1) wr X A g sz cap l lv l P c) ∧ FCell 30 wr w.heap.size (.pointer none) (.int .i64 0) (.slice none 0 0) (.bool false) (.bool false) ∧ Ext w wr) (fun i _ => L.length - (intOf i).toNat)
  case atStart => exact ⟨0, by omega, rfl, ⟨A, g, l0, lv, cap, _, c2, true, hX, hM⟩, hBx, hxW⟩
  case round =>
    obtain ⟨k, hk, rfl, ⟨A, g, l, lv, cap, P, c, ok, hX, hM⟩, hB, hx⟩ := hrel
    have x0 := hX.cells.1
    have x1 := hX.cells.2.1
    have x2 := hX.cells.2.2.1
    have x3 := hX.cells.2.2.2.1
    have x4 := hX.cells.2.2.2.2
    by_cases hlt : k < L.length
    · cases ok with
      | false =>
        have y0 := hB.cells.1
        have y1 := hB.cells.2.1
        have y2 := hB.cells.2.2.1
        have y3 := hB.cells.2.2.2.1
        have y4 := hB.cells.2.2.2.2
        have z0 := hB.fr.1
        have z1 := hB.fr.2.1
        have z2 := hB.fr.2.2.1
        have z3 := hB.fr.2.2.2.1
        have z4 := hB.fr.2.2.2.2
        have c1 : (k : Int) < L.length := by omega
        go_wp2
        have hF := ((((hB.set0 (.pointer (some ⟨A, 0, none⟩))).set1 (.int .i64 sz)).set2 (.slice P l.length c)).set3 (.bool true)).set4 (.bool false)
        have r0 := hF.cells.1
        have r1 := hF.cells.2.1
        have r2 := hF.cells.2.2.1
        have r3 := hF.cells.2.2.2.1
        have r4 := hF.cells.2.2.2.2
        have hu := ((((Upd.setCell wr w.heap.size 0 (.pointer (some ⟨A, 0, none⟩))).trans (Upd.setCell _ w.heap.size 1 (.int .i64 sz))).trans (Upd.setCell _ w.heap.size 2 (.slice P l.length c))).trans (Upd.setCell _ w.heap.size 3 (.bool true))).trans (Upd.setCell _ w.heap.size 4 (.bool false))
        exact bodyPost_ret (v := .agg #[.pointer (some ⟨A, 0, none⟩), .int .i64 sz, .slice P l.length c, .bool true, .bool false]) (by simp [results, Tryz.results10, go_sem, r0, r1, r2, r3, r4]) rfl
          ⟨_, _, _, _, _, false, rfl, Upd.ext hx hu (Nat.le_refl _), fun h => by cases h⟩
      | true =>
        refine play_round w wr X k sz _ capL L A g l lv cap P c hL hok hLn hlt hX hM hB hx _ ?_
        intro zv13 zv14 zv15 zv16 zv17 zv18 zv19 zv20 zv21 zv22 zv23 zv24 zv25 zv26 zv27 zv28 zv29 zv30 zv31 zv32 zv33 zv34 zv35 zv36 zv37 zv38 zv39 zv60 zv61 zv62 zv63 zv64 zv65 zv66 zv67 zv68 zv69 zv70 zv71 zv72 zv73 zv74 zv75 zv76 zv77 zv78 zv79 zv80 zv81 zv82 zv83 zv84 zv85 zv86 zv87 zv88 zv89 zv90 zv91 zv92 zv93 zv94 zv95 zv96 zv97 zv98 zv99 zv100 zv101 zv102 zv103 zv104 zv105 zv106 zv107 zv108 zv109 zv110 zv111 zv112 zv113 zv114 zv115 zv116 zv117 zv118 zv119 zv120 zv121 zv122 zv123 zv124 zv125 zv126 zv127 zv128 zv129 zv130 zv131 zv132 zv133 zv134 zv135 zv136 zv137 zv138 zv139 zv140 zv141 zv142 zv143 zv144 zv145 zv146 zv147 zv148 zv149 zv150 zv151 zv152 zv153 zv154 zv155 zv156 zv157 zv158 zv159 zv160 zv161 zv162 zv163 zv164 zv165 zv166 zv167 zv168 zv169 zv170 zv171 zv172 zv173 zv174 zv175 zv176 zv177 zv178 zv179 zv180 zv181 zv182 zv183 zv184 zv185 zv186 zv187 zv188 zv189 zv190 zv191 zv192 zv193 zv194 zv195 zv196 zv197 zv198 zv199 zv200 zv201 zv202 zv203 zv204 zv205 zv206 zv207 zv208 zv209 zv210 zv211 zv212 zv213 zv214 zv215 zv216 zv217 zv218 zv219 zv220 zv221 zv222 zv223 zv224 zv225 zv226 zv227 zv228 zv229 zv230 zv231 zv232 zv233 zv234 zv235 zv236 zv237 zv238 zv239 zv240 zv241 zv242 zv243 zv244 zv245 zv246 zv247 zv248 zv249 zv250 zv251 zv252 zv253 zv254 zv255 zv256 zv257 zv258 zv259 zv260 zv261 zv262 zv263 zv264 zv265 zv266 zv267 zv268 zv269 zv270 zv271 zv272 zv273 zv274 zv275 zv276 zv277 zv278 zv279 zv280 zv281 zv282 zv283 zv284 zv285 zv286 zv287 zv288 w' hP
        obtain ⟨hP1, hP2, hP3⟩ := hP
        show (_ ∧ _)
        refine ⟨⟨.int .i64 ((k : Int) + 1), zv13, zv14, zv15, zv16, zv17, zv18, zv19, zv20, zv21, zv22, zv23, zv24, zv25, zv26, zv27, zv28, zv29, zv30, zv31, zv32, zv33, zv34, zv35, zv36, zv37, zv38, zv39, zv60, zv61, zv62, zv63, zv64, zv65, zv66, zv67, zv68, zv69, zv70, zv71, zv72, zv73, zv74, zv75, zv76, zv77, zv78, zv79, zv80, zv81, zv82, zv83, zv84, zv85, zv86, zv87, zv88, zv89, zv90, zv91, zv92, zv93, zv94, zv95, zv96, zv97, zv98, zv99, zv100, zv101, zv102, zv103, zv104, zv105, zv106, zv107, zv108, zv109, zv110, zv111, zv112, zv113, zv114, zv115, zv116, zv117, zv118, zv119, zv120, zv121, zv122, zv123, zv124, zv125, zv126, zv127, zv128, zv129, zv130, zv131, zv132, zv133, zv134, zv135, zv136, zv137, zv138, zv139, zv140, zv141, zv142, zv143, zv144, zv145, zv146, zv147, zv148, zv149, zv150, zv151, zv152, zv153, zv154, zv155, zv156, zv157, zv158, zv159, zv160, zv161, zv162, zv163, zv164, zv165, zv166, zv167, zv168, zv169, zv170, zv171, zv172, zv173, zv174, zv175, zv176, zv177, zv178, zv179, zv180, zv181, zv182, zv183, zv184, zv185, zv186, zv187, zv188, zv189, zv190, zv191, zv192, zv193, zv194, zv195, zv196, zv197, zv198, zv199, zv200, zv201, zv202, zv203, zv204, zv205, zv206, zv207, zv208, zv209, zv210, zv211, zv212, zv213, zv214, zv215, zv216, zv217, zv218, zv219, zv220, zv221, zv222, zv223, zv224, zv225, zv226, zv227, zv228, zv229, zv230, zv231, zv232, zv233, zv234, zv235, zv236, zv237, zv238, zv239, zv240, zv241, zv242, zv243, zv244, zv245, zv246, zv247, zv248, zv249, zv250, zv251, zv252, zv253, zv254, zv255, zv256, zv257, zv258, zv259, zv260, zv261, zv262, zv263, zv264, zv265, zv266, zv267, zv268, zv269, zv270, zv271, zv272, zv273, zv274, zv275, zv276, zv277, zv278, zv279, zv280, zv281, zv282, zv283, zv284, zv285, zv286, zv287, zv288, ⟨k + 1, by omega, rfl, hP1, hP2, hP3⟩, rfl⟩, ?_⟩
        show L.length - ((k : Int) + 1).toNat < L.length - (k : Int).toNat
        omega
    · obtain rfl : k = L.length := by omega
      have y0 := hB.cells.1
      have y1 := hB.cells.2.1
      have y2 := hB.cells.2.2.1
      have y3 := hB.cells.2.2.2.1
      have y4 := hB.cells.2.2.2.2
      have z0 := hB.fr.1
      have z1 := hB.fr.2.1
      have z2 := hB.fr.2.2.1
      have z3 := hB.fr.2.2.2.1
      have z4 := hB.fr.2.2.2.2
      go_wp2
      have hF := ((((hB.set0 (.pointer (some ⟨A, 0, none⟩))).set1 (.int .i64 sz)).set2 (.slice P l.length c)).set3 (.bool true)).set4 (.bool ok)
      have r0 := hF.cells.1
      have r1 := hF.cells.2.1
      have r2 := hF.cells.2.2.1
      have r3 := hF.cells.2.2.2.1
      have r4 := hF.cells.2.2.2.2
      have hu := ((((Upd.setCell wr w.heap.size 0 (.pointer (some ⟨A, 0, none⟩))).trans (Upd.setCell _ w.heap.size 1 (.int .i64 sz))).trans (Upd.setCell _ w.heap.size 2 (.slice P l.length c))).trans (Upd.setCell _ w.heap.size 3 (.bool true))).trans (Upd.setCell _ w.heap.size 4 (.bool ok))
      exact bodyPost_ret (v := .agg #[.pointer (some ⟨A, 0, none⟩), .int .i64 sz, .slice P l.length c, .bool true, .bool ok]) (by simp [results, Tryz.results10, go_sem, r0, r1, r2, r3, r4]) rfl
        ⟨_, _, _, _, _, ok, rfl, Upd.ext hx hu (Nat.le_refl _), fun _ => ⟨X, A, g, sz, cap, l, lv, rfl, rfl, rfl, (hM.base hu (Nat.lt_succ_self _)).low (Nat.le_succ _)⟩⟩
theorem play_any (size pages : Int) (PL : Option Addr) (capL : Nat) (L : List AcS) (w : World) (hsz : inI size) (hpg : inI pages) (hL : SlG csAc w PL capL L) (hok : ∀ x ∈ L, AcOk x) (hLn : L.length ≤ 1000) :
    Calls Tryz.prog 10 #[.int .i64 size, .int .i64 pages, .slice PL L.length capL] w (PlayPost w) := by
  by_cases hc : sizeB size = true ∧ 1 ≤ pages ∧ pages ≤ 200
  · exact play_yes size pages PL capL L w hsz hpg hL hok hLn hc
  · exact play_no size pages PL capL L w hsz hpg hL hok hLn hc
end Go.Proofs.YtnileonlabpbpaaGreat

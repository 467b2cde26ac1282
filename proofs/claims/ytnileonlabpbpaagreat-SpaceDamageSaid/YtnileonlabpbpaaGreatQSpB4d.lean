/- Areas: play, the act of kind 4 (Grow), leaf d. -/
import Derived.Test.YtnileonlabpbpaaGreatQSpBA
namespace Go.Proofs.YtnileonlabpbpaaGreat
open Go.RowKit
set_option linter.unusedVariables false
set_option linter.unusedSimpArgs false
set_option linter.unusedSectionVars false
set_option maxRecDepth 1000000

set_option maxHeartbeats 40000000 in
theorem play_case_4d {zc0 zc1 zc3 zc4 zc5 zc6 zc7 zc8 zc9 zc10 zc40 zc41 zc42 zc43 zc44 zc45 zc46 zc47 zc48 zc49 zc50 zc51 zc52 zc53 zc54 zc55 zc56 zc57 zc58 zc59 zc289 zu13 zu14 zu15 zu16 zu17 zu18 zu19 zu20 zu21 zu22 zu23 zu24 zu25 zu26 zu27 zu28 zu29 zu30 zu31 zu32 zu33 zu34 zu35 zu36 zu37 zu38 zu39 zu60 zu61 zu62 zu63 zu64 zu65 zu66 zu67 zu68 zu69 zu70 zu71 zu72 zu73 zu74 zu75 zu76 zu77 zu78 zu79 zu80 zu81 zu82 zu83 zu84 zu85 zu86 zu87 zu88 zu89 zu90 zu91 zu92 zu93 zu94 zu95 zu96 zu97 zu98 zu99 zu100 zu101 zu102 zu103 zu104 zu105 zu106 zu107 zu108 zu109 zu110 zu111 zu112 zu113 zu114 zu115 zu116 zu117 zu118 zu119 zu120 zu121 zu122 zu123 zu124 zu125 zu126 zu127 zu128 zu129 zu130 zu131 zu132 zu133 zu134 zu135 zu136 zu137 zu138 zu139 zu140 zu141 zu142 zu143 zu144 zu145 zu146 zu147 zu148 zu149 zu150 zu151 zu152 zu153 zu154 zu155 zu156 zu157 zu158 zu159 zu160 zu161 zu162 zu163 zu164 zu165 zu166 zu167 zu168 zu169 zu170 zu171 zu172 zu173 zu174 zu175 zu176 zu177 zu178 zu179 zu180 zu181 zu182 zu183 zu184 zu185 zu186 zu187 zu188 zu189 zu190 zu191 zu192 zu193 zu194 zu195 zu196 zu197 zu198 zu199 zu200 zu201 zu202 zu203 zu204 zu205 zu206 zu207 zu208 zu209 zu210 zu211 zu212 zu213 zu214 zu215 zu216 zu217 zu218 zu219 zu220 zu221 zu222 zu223 zu224 zu225 zu226 zu227 zu228 zu229 zu230 zu231 zu232 zu233 zu234 zu235 zu236 zu237 zu238 zu239 zu240 zu241 zu242 zu243 zu244 zu245 zu246 zu247 zu248 zu249 zu250 zu251 zu252 zu253 zu254 zu255 zu256 zu257 zu258 zu259 zu260 zu261 zu262 zu263 zu264 zu265 zu266 zu267 zu268 zu269 zu270 zu271 zu272 zu273 zu274 zu275 zu276 zu277 zu278 zu279 zu280 zu281 zu282 zu283 zu284 zu285 zu286 zu287 zu288 : Value} (w wr : World) (X k sz : Nat) (PL : Option Addr) (capL : Nat) (L : List AcS) (x : AcS) (A g : Nat) (l : List ByteArray) (lv : List UInt8) (cap : Nat) (P : Option Addr) (c : Nat) (hL : SlG csAc w PL capL L) (hok : ∀ x ∈ L, AcOk x) (hLn : L.length ≤ 1000) (hlt : k < L.length) (hxk : L[k]? = some x) (hkind : x.kind = 4)
    (hX : FCell 30 wr X (.pointer (some ⟨A, 0, none⟩)) (.int .i64 sz) (.slice P (List.length l) c) (.bool true) (.bool true)) (hM : Mid (w.heap.size + 1) wr X A g sz cap l lv l P c) (hB : FCell 30 wr w.heap.size (.pointer none) (.int .i64 0) (.slice none 0 0) (.bool false) (.bool false)) (hx : Ext w wr) (Q : Exit → Act → World → Prop)
    (hQ : ∀ (zv13 zv14 zv15 zv16 zv17 zv18 zv19 zv20 zv21 zv22 zv23 zv24 zv25 zv26 zv27 zv28 zv29 zv30 zv31 zv32 zv33 zv34 zv35 zv36 zv37 zv38 zv39 zv60 zv61 zv62 zv63 zv64 zv65 zv66 zv67 zv68 zv69 zv70 zv71 zv72 zv73 zv74 zv75 zv76 zv77 zv78 zv79 zv80 zv81 zv82 zv83 zv84 zv85 zv86 zv87 zv88 zv89 zv90 zv91 zv92 zv93 zv94 zv95 zv96 zv97 zv98 zv99 zv100 zv101 zv102 zv103 zv104 zv105 zv106 zv107 zv108 zv109 zv110 zv111 zv112 zv113 zv114 zv115 zv116 zv117 zv118 zv119 zv120 zv121 zv122 zv123 zv124 zv125 zv126 zv127 zv128 zv129 zv130 zv131 zv132 zv133 zv134 zv135 zv136 zv137 zv138 zv139 zv140 zv141 zv142 zv143 zv144 zv145 zv146 zv147 zv148 zv149 zv150 zv151 zv152 zv153 zv154 zv155 zv156 zv157 zv158 zv159 zv160 zv161 zv162 zv163 zv164 zv165 zv166 zv167 zv168 zv169 zv170 zv171 zv172 zv173 zv174 zv175 zv176 zv177 zv178 zv179 zv180 zv181 zv182 zv183 zv184 zv185 zv186 zv187 zv188 zv189 zv190 zv191 zv192 zv193 zv194 zv195 zv196 zv197 zv198 zv199 zv200 zv201 zv202 zv203 zv204 zv205 zv206 zv207 zv208 zv209 zv210 zv211 zv212 zv213 zv214 zv215 zv216 zv217 zv218 zv219 zv220 zv221 zv222 zv223 zv224 zv225 zv226 zv227 zv228 zv229 zv230 zv231 zv232 zv233 zv234 zv235 zv236 zv237 zv238 zv239 zv240 zv241 zv242 zv243 zv244 zv245 zv246 zv247 zv248 zv249 zv250 zv251 zv252 zv253 zv254 zv255 zv256 zv257 zv258 zv259 zv260 zv261 zv262 zv263 zv264 zv265 zv266 zv267 zv268 zv269 zv270 zv271 zv272 zv273 zv274 zv275 zv276 zv277 zv278 zv279 zv280 zv281 zv282 zv283 zv284 zv285 zv286 zv287 zv288 : Value) (w' : World), PRel w X sz w' → Q .normal ⟨#[zc0, zc1, .slice PL L.length capL, zc3, zc4, zc5, zc6, zc7, zc8, zc9, zc10, .pointer (some ⟨X, 0, none⟩), .int .i64 ((k : Int) + 1), zv13, zv14, zv15, zv16, zv17, zv18, zv19, zv20, zv21, zv22, zv23, zv24, zv25, zv26, zv27, zv28, zv29, zv30, zv31, zv32, zv33, zv34, zv35, zv36, zv37, zv38, zv39, zc40, zc41, zc42, zc43, zc44, zc45, zc46, zc47, zc48, zc49, zc50, zc51, zc52, zc53, zc54, zc55, zc56, zc57, zc58, zc59, zv60, zv61, zv62, zv63, zv64, zv65, zv66, zv67, zv68, zv69, zv70, zv71, zv72, zv73, zv74, zv75, zv76, zv77, zv78, zv79, zv80, zv81, zv82, zv83, zv84, zv85, zv86, zv87, zv88, zv89, zv90, zv91, zv92, zv93, zv94, zv95, zv96, zv97, zv98, zv99, zv100, zv101, zv102, zv103, zv104, zv105, zv106, zv107, zv108, zv109, zv110, zv111, zv112, zv113, zv114, zv115, zv116, zv117, zv118, zv119, zv120, zv121, zv122, zv123, zv124, zv125, zv126, zv127, zv128, zv129, zv130, zv131, zv132, zv133, zv134, zv135, zv136, zv137, zv138, zv139, zv140, zv141, zv142, zv143, zv144, zv145, zv146, zv147, zv148, zv149, zv150, zv151, zv152, zv153, zv154, zv155, zv156, zv157, zv158, zv159, zv160, zv161, zv162, zv163, zv164, zv165, zv166, zv167, zv168, zv169, zv170, zv171, zv172, zv173, zv174, zv175, zv176, zv177, zv178, zv179, zv180, zv181, zv182, zv183, zv184, zv185, zv186, zv187, zv188, zv189, zv190, zv191, zv192, zv193, zv194, zv195, zv196, zv197, zv198, zv199, zv200, zv201, zv202, zv203, zv204, zv205, zv206, zv207, zv208, zv209, zv210, zv211, zv212, zv213, zv214, zv215, zv216, zv217, zv218, zv219, zv220, zv221, zv222, zv223, zv224, zv225, zv226, zv227, zv228, zv229, zv230, zv231, zv232, zv233, zv234, zv235, zv236, zv237, zv238, zv239, zv240, zv241, zv242, zv243, zv244, zv245, zv246, zv247, zv248, zv249, zv250, zv251, zv252, zv253, zv254, zv255, zv256, zv257, zv258, zv259, zv260, zv261, zv262, zv263, zv264, zv265, zv266, zv267, zv268, zv269, zv270, zv271, zv272, zv273, zv274, zv275, zv276, zv277, zv278, zv279, zv280, zv281, zv282, zv283, zv284, zv285, zv286, zv287, zv288, zc289], []⟩ w')
    (r : Int) (l' : List ByteArray)
    (hp : ∀ W, Sp W A g sz l lv cap → Calls Tryz.prog 41 #[.pointer (some ⟨A, 0, none⟩), .int .i64 x.n] W fun e w' => e = .returned (.int .i64 r) ∧ NextA A g W w' sz l' ∧ Chg A g W w')
    (hr : ∀ W, RS W P c sz l → Calls Tryz.prog 42 #[.agg #[.int .i64 sz, .slice P l.length c], .int .i64 x.n] W fun e w' => (∃ v, e = .returned (.tuple #[v, .int .i64 r]) ∧ NextR W P w' v sz l') ∧ Ext W w') (h10 : 10 < x.n → False) (h0 : ¬ r = 0) :
    Code.wp Tryz.prog playBody Q ⟨#[zc0, zc1, .slice PL L.length capL, zc3, zc4, zc5, zc6, zc7, zc8, zc9, zc10, .pointer (some ⟨X, 0, none⟩), .int .i64 k, zu13, zu14, zu15, zu16, zu17, zu18, zu19, zu20, zu21, zu22, zu23, zu24, zu25, zu26, zu27, zu28, zu29, zu30, zu31, zu32, zu33, zu34, zu35, zu36, zu37, zu38, zu39, zc40, zc41, zc42, zc43, zc44, zc45, zc46, zc47, zc48, zc49, zc50, zc51, zc52, zc53, zc54, zc55, zc56, zc57, zc58, zc59, zu60, zu61, zu62, zu63, zu64, zu65, zu66, zu67, zu68, zu69, zu70, zu71, zu72, zu73, zu74, zu75, zu76, zu77, zu78, zu79, zu80, zu81, zu82, zu83, zu84, zu85, zu86, zu87, zu88, zu89, zu90, zu91, zu92, zu93, zu94, zu95, zu96, zu97, zu98, zu99, zu100, zu101, zu102, zu103, zu104, zu105, zu106, zu107, zu108, zu109, zu110, zu111, zu112, zu113, zu114, zu115, zu116, zu117, zu118, zu119, zu120, zu121, zu122, zu123, zu124, zu125, zu126, zu127, zu128, zu129, zu130, zu131, zu132, zu133, zu134, zu135, zu136, zu137, zu138, zu139, zu140, zu141, zu142, zu143, zu144, zu145, zu146, zu147, zu148, zu149, zu150, zu151, zu152, zu153, zu154, zu155, zu156, zu157, zu158, zu159, zu160, zu161, zu162, zu163, zu164, zu165, zu166, zu167, zu168, zu169, zu170, zu171, zu172, zu173, zu174, zu175, zu176, zu177, zu178, zu179, zu180, zu181, zu182, zu183, zu184, zu185, zu186, zu187, zu188, zu189, zu190, zu191, zu192, zu193, zu194, zu195, zu196, zu197, zu198, zu199, zu200, zu201, zu202, zu203, zu204, zu205, zu206, zu207, zu208, zu209, zu210, zu211, zu212, zu213, zu214, zu215, zu216, zu217, zu218, zu219, zu220, zu221, zu222, zu223, zu224, zu225, zu226, zu227, zu228, zu229, zu230, zu231, zu232, zu233, zu234, zu235, zu236, zu237, zu238, zu239, zu240, zu241, zu242, zu243, zu244, zu245, zu246, zu247, zu248, zu249, zu250, zu251, zu252, zu253, zu254, zu255, zu256, zu257, zu258, zu259, zu260, zu261, zu262, zu263, zu264, zu265, zu266, zu267, zu268, zu269, zu270, zu271, zu272, zu273, zu274, zu275, zu276, zu277, zu278, zu279, zu280, zu281, zu282, zu283, zu284, zu285, zu286, zu287, zu288, zc289], []⟩ wr := by
  conv => arg 2; whnf
  have x0 := hX.cells.1
  have x1 := hX.cells.2.1
  have x2 := hX.cells.2.2.1
  have x3 := hX.cells.2.2.2.1
  have x4 := hX.cells.2.2.2.2
  have hxo := hok x (List.mem_of_getElem? hxk)
  obtain ⟨bL, offL, hPL, hcL⟩ := hL.at_ k x hxk
  subst hPL
  have hq := fun j u hj => hx.cell (hcL j u hj)
  have q0 := hq 0 _ rfl
  have q1 := hq 1 _ rfl
  have q2 := hq 2 _ rfl
  have q3 := hq 3 _ rfl
  have q4 := hq 4 _ rfl
  have q5 := hq 5 _ rfl
  simp only [List.length_cons, List.length_nil, Nat.reduceAdd, Nat.add_zero] at q0 q1 q2 q3 q4 q5
  clear hq hcL hxk hok hL
  have c1 : (k : Int) < L.length := by omega
  obtain ⟨kind, near, n, px, py, data⟩ := x
  have okind := hxo.kind
  have onear := hxo.near
  have on := hxo.n
  have opx := hxo.px
  have opy := hxo.py
  have odata := hxo.data
  simp only at q0 q1 q2 q3 q4 q5 okind onear on opx opy odata
  have hxa := (Ext.refl wr).alloc (.cells #[.int .i64 kind, .int .i64 near, .int .i64 n, .int .i64 px, .int .i64 py, .string data] 59)
  have hM1 := hM.ext hxa
  have hX1 := hX.ext hxa
  have hS1 := GCell.new 59 wr (.int .i64 kind) (.int .i64 near) (.int .i64 n) (.int .i64 px) (.int .i64 py) (.string data)
  have hB1 := hB.ext hxa
  have x10 := hX1.cells.1
  have hx1 := hx.trans hxa
  have e1 := hM.la
  have e2 := hM.lg
  have e3 := hM.lx
  have e4 := hM.sp.ar.lt
  have e5 := hM.sp.gl
  have neSA : wr.heap.size ≠ A := by omega
  have neSG : wr.heap.size ≠ g := by omega
  have neRA : w.heap.size ≠ A := by omega
  have neRG : w.heap.size ≠ g := by omega
  have hlA : w.heap.size ≤ A := by omega
  have hlG : w.heap.size ≤ g := by omega
  have hXR : w.heap.size ≠ X := by omega
  have hXl : w.heap.size ≤ X := by omega
  clear e1 e2 e3 e4 e5
  simp only at hkind
  subst hkind
  simp only at hp hr h10
  have s1 := hS1.cells.2.1
  have s2 := hS1.cells.2.2.1
  have s3 := hS1.cells.2.2.2.1
  have c40 : (r == 0) = false := by simpa using h0
  go_wp2_with (fail)
  go_at_call 41
  refine (hp _ hM1.sp).mono ?_
  rintro e w2 ⟨rfl, hn2, hc2⟩
  dsimp only
  obtain ⟨g2, lv2, cap2, hM2⟩ := hM1.prog hn2 hc2
  have hX2 := hM1.chgX hX1 hc2
  have hS2 := hS1.chg hc2 neSA neSG
  have hB2 := hB1.chg hc2 neRA neRG
  have hx2 := Chg.ext hx1 hc2 hlA hlG
  have u1 := hX2.cells.2.1
  have u2 := hX2.cells.2.2.1
  have v1 := hS2.cells.2.1
  have v2 := hS2.cells.2.2.1
  have v3 := hS2.cells.2.2.2.1
  have v4 := hS2.cells.2.2.2.2.1
  have v5 := hS2.cells.2.2.2.2.2
  go_wp2_with (fail)
  go_at_call 42
  refine (hr _ hM2.rs).mono ?_
  rintro e w3 ⟨⟨v3, rfl, hn3⟩, hx3⟩
  dsimp only
  obtain ⟨P3, c3, rfl, hM3⟩ := hM2.ref hn3 hx3
  have hxc := (Ext.refl w3).alloc (.cells #[.int .i64 sz, .slice P3 l'.length c3] 28)
  have hC4 := TCell.new 28 w3 (.int .i64 sz) (.slice P3 l'.length c3)
  have hX4 := (hX2.ext hx3).ext hxc
  have hB4 := (hB2.ext hx3).ext hxc
  have hx4 := (hx2.trans hx3).trans hxc
  have hM4 := hM3.ext hxc
  have m0 := hC4.cells.1
  have m1 := hC4.cells.2.1
  have n1 := hX4.cells.2.1
  have nf1 := hX4.fr.2.1
  have hX5 := hX4.set1 (.int .i64 sz)
  have o2 := hX5.cells.2.2.1
  have of2 := hX5.fr.2.2.1
  have hX6 := hX5.set2 (.slice P3 l'.length c3)
  have p3 := hX6.cells.2.2.2.1
  have pf3 := hX6.fr.2.2.2.1
  have hX7 := hX6.set3 (.bool true)
  have r0 := hX7.cells.1
  have r1 := hX7.cells.2.1
  have r2 := hX7.cells.2.2.1
  have r3 := hX7.cells.2.2.2.1
  have hu7 := ((Upd.setCell (w3.alloc (.cells #[.int .i64 sz, .slice P3 l'.length c3] 28)) X 1 (.int .i64 sz)).trans (Upd.setCell _ X 2 (.slice P3 l'.length c3))).trans (Upd.setCell _ X 3 (.bool true))
  have hM7 := hM4.upd hu7
  have hCX : w3.heap.size ≠ X := (by have h9 := hM3.xw; omega)
  have hC7 := ((hC4.far (p := ⟨X, 1, none⟩) hCX (.int .i64 sz)).far (p := ⟨X, 2, none⟩) hCX (.slice P3 l'.length c3)).far (p := ⟨X, 3, none⟩) hCX (.bool true)
  have m7 := hC7.cells.2.1
  go_wp2_with (fail)
  go_at_call 32
  refine (agree_yes A g2 sz cap2 l' lv2 P3 c3 _ hM7.sp hM7.rs.rar).mono ?_
  rintro e w8 ⟨rfl, hx8⟩
  dsimp only
  have hX8 := hX7.ext hx8
  have t3 := hX8.cells.2.2.2.1
  have tf3 := hX8.fr.2.2.2.1
  go_wp2_with (fail)
  have hX9 := hX8.set3 (.bool true)
  have hu9 := Upd.setCell w8 X 3 (.bool true)
  have hM9 := (hM7.ext hx8).upd hu9
  have hB9 := ((((hB4.far (p := ⟨X, 1, none⟩) hXR (.int .i64 sz)).far (p := ⟨X, 2, none⟩) hXR (.slice P3 l'.length c3)).far (p := ⟨X, 3, none⟩) hXR (.bool true)).ext hx8).far (p := ⟨X, 3, none⟩) hXR (.bool true)
  have hx9 := ((((hx4.setCell (p := ⟨X, 1, none⟩) hXl (.int .i64 sz)).setCell (p := ⟨X, 2, none⟩) hXl (.slice P3 l'.length c3)).setCell (p := ⟨X, 3, none⟩) hXl (.bool true)).trans hx8).setCell (p := ⟨X, 3, none⟩) hXl (.bool true)
  exact ⟨⟨A, g2, l', lv2, cap2, P3, c3, true, hX9, hM9⟩, hB9, hx9⟩
end Go.Proofs.YtnileonlabpbpaaGreat

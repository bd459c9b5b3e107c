
/- A region of 'Groups' that draws its order and writes, walked by itself. No condition. -/
import Derived.Test.YtemdhbeegheefaaGrMake
import Derived.Test.YtemdhbeegheefaaGrMap
import Derived.Test.YtemdhbeegheefaaGrRows
import Derived.Deep.AppendLies
import Derived.Deep.RegionLaw
import Derived.BigRegion
import Derived.Deep.RegionHeld3
namespace Go.Proofs.Ytemdhbeegheefaa
open Go.RowKit Gr
/-- The region of that number. -/
def rgnAt (n : Nat) : Code → Option Code
  | .region id ops b => if id = n then some (.region id ops b) else none
  | .seq a b => match rgnAt n a with
    | some c => some c
    | none => rgnAt n b
  | .loop c => rgnAt n c
  | .block _ c => rgnAt n c
  | .scope c => rgnAt n c
  | .cond _ a b => match rgnAt n a with
    | some c => some c
    | none => rgnAt n b
  | _ => none
noncomputable def rg31 : Code := ((Try.f10.body.bind (rgnAt 31)).getD .skip)
set_option maxRecDepth 1000000 in
set_option maxHeartbeats 8000000 in
theorem reg31 {u0 u1 u2 u3 u4 u5 u6 u7 u8 u9 u10 u11 u12 u13 u14 u17 u18 u19 u20 u21 u22 u23 u24 u25 u26 u27 u28 u29 u30 u31 u32 u33 u34 u35 u36 u37 u38 u39 u40 u41 u42 u43 u44 u45 u46 u47 u48 u49 u50 u51 u52 u53 u54 u55 u56 u57 u58 u59 u60 u61 u62 u63 u64 u65 u66 u67 u68 u69 u70 u71 u72 u73 u74 u75 u76 u77 u78 u79 u80 u81 u82 u83 u84 u85 u86 u87 u88 u89 u90 u91 u92 u93 u94 u95 u96 u97 u98 u99 u100 u101 u102 u103 u104 u105 u106 u107 u108 u109 u110 u111 u112 u113 u114 u115 u116 u117 u118 u119 u120 u121 u122 u123 u124 u125 u126 u127 u128 u129 u130 u131 u132 u133 u134 u135 u136 u137 u138 u139 u140 u141 u142 u143 u144 u145 u146 u147 u148 u149 u150 u151 u152 u153 u154 u155 u156 u157 u158 u159 u160 u161 u162 u163 u164 u165 u166 u167 u168 u169 u170 u171 u172 u173 u174 u175 u176 u177 u178 u179 u180 u181 u182 u183 u184 u185 u186 u187 u188 u189 u190 u191 u192 u193 u194 u195 u196 u197 u198 u199 u200 u201 u202 u203 u204 u205 u206 u207 u208 u209 u210 u211 u212 u213 u214 u215 u216 u217 u218 u219 u220 u221 u222 u223 u224 u225 u226 u227 u228 u229 u230 u231 u232 u233 u234 u235 u236 u237 u238 u239 u240 u241 u242 u243 u244 u245 u246 : Value} {Q : Exit → Act → World → Prop} {W : World} {r5 e8 ea ec many len cv2 : Nat} {av : Option Addr} {xs : List Value} {vl : List Value} (hea : ea < many) (hlen : len ≤ 1000000) (hsz : r5 + 2 ≤ W.heap.size)
    (HE : Ro W e8 52 [.int .i64 (ea : Int), .int .i64 (ec : Int)]) (HR : Ro W r5 23 vl) (hv : vl[ea]? = some (.slice av len cv2)) (hrow : W.ownsRow (r5 + 2) 3 1 (.slice av len cv2) len xs)
    (hQ : ∀ (x161 x162 x163 x164 x165 x166 x167 x168 x169 x170 x171 x172 x173 : Value) (gg cap : Nat) (w1 : World), w1.ownsRow (r5 + 2) 3 1 (.slice (some ⟨gg, 0, none⟩) (len + 1) cap) (len + 1) (xs ++ [.int .i64 (ec : Int)]) → Kw W w1 (fun j => (Value.slice av len cv2).ownBlock = some j) → ((Value.slice av len cv2).ownBlock = some gg ∨ gg = W.heap.size + 1) →
      Q .normal ⟨#[u0, u1, u2, u3, u4, u5, u6, u7, u8, u9, u10, u11, u12, u13, u14, .slice (some ⟨r5, 0, none⟩) many many, .pointer (some ⟨e8, 0, none⟩), u17, u18, u19, u20, u21, u22, u23, u24, u25, u26, u27, u28, u29, u30, u31, u32, u33, u34, u35, u36, u37, u38, u39, u40, u41, u42, u43, u44, u45, u46, u47, u48, u49, u50, u51, u52, u53, u54, u55, u56, u57, u58, u59, u60, u61, u62, u63, u64, u65, u66, u67, u68, u69, u70, u71, u72, u73, u74, u75, u76, u77, u78, u79, u80, u81, u82, u83, u84, u85, u86, u87, u88, u89, u90, u91, u92, u93, u94, u95, u96, u97, u98, u99, u100, u101, u102, u103, u104, u105, u106, u107, u108, u109, u110, u111, u112, u113, u114, u115, u116, u117, u118, u119, u120, u121, u122, u123, u124, u125, u126, u127, u128, u129, u130, u131, u132, u133, u134, u135, u136, u137, u138, u139, u140, u141, u142, u143, u144, u145, u146, u147, u148, u149, u150, u151, u152, u153, u154, u155, u156, u157, u158, u159, u160, x161, x162, x163, x164, x165, x166, x167, x168, x169, x170, x171, x172, x173, u174, u175, u176, u177, u178, u179, u180, u181, u182, u183, u184, u185, u186, u187, u188, u189, u190, u191, u192, u193, u194, u195, u196, u197, u198, u199, u200, u201, u202, u203, u204, u205, u206, u207, u208, u209, u210, u211, u212, u213, u214, u215, u216, u217, u218, u219, u220, u221, u222, u223, u224, u225, u226, u227, u228, u229, u230, u231, u232, u233, u234, u235, u236, u237, u238, u239, u240, u241, u242, u243, u244, u245, u246], []⟩ (w1.setCell ⟨r5, ea, none⟩ (.slice (some ⟨gg, 0, none⟩) (len + 1) cap))) :
    Code.wp Try.prog rg31 Q ⟨#[u0, u1, u2, u3, u4, u5, u6, u7, u8, u9, u10, u11, u12, u13, u14, .slice (some ⟨r5, 0, none⟩) many many, .pointer (some ⟨e8, 0, none⟩), u17, u18, u19, u20, u21, u22, u23, u24, u25, u26, u27, u28, u29, u30, u31, u32, u33, u34, u35, u36, u37, u38, u39, u40, u41, u42, u43, u44, u45, u46, u47, u48, u49, u50, u51, u52, u53, u54, u55, u56, u57, u58, u59, u60, u61, u62, u63, u64, u65, u66, u67, u68, u69, u70, u71, u72, u73, u74, u75, u76, u77, u78, u79, u80, u81, u82, u83, u84, u85, u86, u87, u88, u89, u90, u91, u92, u93, u94, u95, u96, u97, u98, u99, u100, u101, u102, u103, u104, u105, u106, u107, u108, u109, u110, u111, u112, u113, u114, u115, u116, u117, u118, u119, u120, u121, u122, u123, u124, u125, u126, u127, u128, u129, u130, u131, u132, u133, u134, u135, u136, u137, u138, u139, u140, u141, u142, u143, u144, u145, u146, u147, u148, u149, u150, u151, u152, u153, u154, u155, u156, u157, u158, u159, u160, u161, u162, u163, u164, u165, u166, u167, u168, u169, u170, u171, u172, u173, u174, u175, u176, u177, u178, u179, u180, u181, u182, u183, u184, u185, u186, u187, u188, u189, u190, u191, u192, u193, u194, u195, u196, u197, u198, u199, u200, u201, u202, u203, u204, u205, u206, u207, u208, u209, u210, u211, u212, u213, u214, u215, u216, u217, u218, u219, u220, u221, u222, u223, u224, u225, u226, u227, u228, u229, u230, u231, u232, u233, u234, u235, u236, u237, u238, u239, u240, u241, u242, u243, u244, u245, u246], []⟩ W := by
  refine Code.wp_mono NoPanic.imp ?_
  conv => arg 2; whnf
  have hne1 : (Value.slice av len cv2).ownBlock ≠ some e8 := HE.ne_own (by decide) hrow
  have hne2 : (Value.slice av len cv2).ownBlock ≠ some r5 := HR.ne_own (by decide) hrow
  have HQ := Lib.hid hQ
  have HEW := Lib.hid HE
  have HRW := Lib.hid HR
  have HVV := Lib.hid hv
  have hei : (ea : Int) < (many : Int) := by omega
  have v0 := HE.cell (i := 0) rfl
  have v1 := HE.cell (i := 1) rfl
  have c1 := HR.cell hv
  obtain ⟨i0, z0, hi0, hz0, hsz0, hby0, hzs0⟩ := tyInts.hi
  have c1a : (W.alloc (.cells #[.int .i64 (ec : Int)] 3)).cell? ⟨r5, ea, none⟩ = some (.slice av len cv2) := (HR.kw (Kw.alloc W (.cells #[.int .i64 (ec : Int)] 3) (fun _ => False)) id).cell hv
  have v0a : (W.alloc (.cells #[.int .i64 (ec : Int)] 3)).cell? ⟨e8, 0, none⟩ = some (.int .i64 (ea : Int)) := (HE.kw (Kw.alloc W (.cells #[.int .i64 (ec : Int)] 3) (fun _ => False)) id).cell (i := 0) rfl
  have v1a : (W.alloc (.cells #[.int .i64 (ec : Int)] 3)).cell? ⟨e8, 1, none⟩ = some (.int .i64 (ec : Int)) := (HE.kw (Kw.alloc W (.cells #[.int .i64 (ec : Int)] 3) (fun _ => False)) id).cell (i := 1) rfl
  clear hQ HE HR hv
  go_region_law
    (first
      | (refine step_append_lies _ (by rfl) _ _ _ (by rfl) (r5 + 2) 3 i0 _ 1 8 Try.underlying23 hi0 hz0 hsz0 hby0 hzs0 (by omega) (.slice av len cv2) len _ (by rfl) ((hrow.alloc (.cells #[.int .i64 (ec : Int)] 3)).drew) ⟨W.heap.size, 0, none⟩ 1 1 [.int .i64 (ec : Int)] (by rfl) (by rfl) (World.news_of_block (cs := #[.int .i64 (ec : Int)]) (t := 3) (fr := (0, 0)) (heap_alloc_new W _)) (by simp [Value.oneCell']) (by omega) (by unfold maxLen; omega) (by omega) (by simp; omega) (W.heap.size + 1) (by simp) ?_
         intro gg cap w1 hown1 hgrow hat hlt1
         have k3 : Kw W w1 (fun j => (Value.slice av len cv2).ownBlock = some j) := ((Kw.alloc W (.cells #[.int .i64 (ec : Int)] 3) (fun j => (Value.slice av len cv2).ownBlock = some j)).trans (Kw.drewN _ 1 (fun j => (Value.slice av len cv2).ownBlock = some j)) fun _ _ h => h).trans (Kw.of_grown hgrow) fun _ _ h => h
         have HK3 := Lib.hid k3
         have HO1 := Lib.hid hown1
         have HAT := Lib.hid hat
         clear hown1 hgrow hat hlt1
         have k0 := (HEW.out.kw k3 hne1).cell (i := 0) rfl
         have k1 := (HEW.out.kw k3 hne1).cell (i := 1) rfl
         have k2 := (HRW.out.kw k3 hne2).cell HVV.out
         have kf := (HRW.out.kw k3 hne2).free ea
         clear k3)
      | fail)
  all_goals (exact HQ.out _ _ _ _ _ _ _ _ _ _ _ _ _ gg cap w1 HO1.out HK3.out HAT.out)
end Go.Proofs.Ytemdhbeegheefaa

/- Walks and plain laws, 5: errors.As at a target of the program's own kind of fault: after the kit's worked proof, at this program's numbers. No condition. errors.Is at the program's own faults, walked. No condition. The program's expansion: burn, put, come, walked. No condition. Put keeps the order of macros. No condition. How many tokens a text has, and how long they are. No condition. Expansions keep their bounds, and end. No condition. The program's expansion: ask, walked. No condition. The program's expansion: groups, walked. No condition. The program's expansion: come, ask, walked. No condition. The program's expansion: a call of a macro, walked. No condition. The lexer's 'one' and 'Lex', walked. -/
import Derived.Test.YtjfikkjaifdkiaaGreatDoorTe4
import Derived.Test.YtjfikkjaifdkiaaGreatDoorProg
import Derived.WalkKit
import Derived.LaidEql
import Derived.Stop.Asserts
import Derived.RowKitTokens
import Derived.BigRegion
namespace Go.Proofs.YtjfikkjaifdkiaaGreatDoor
open Go.RowKit Go.Extern.Stop Go.Stop Go.Extern

theorem as_nil (t : Value) (w : World) :
    Calls Tryz.prog 33 #[.nilIface, t] w fun e w' => e = .returned (.bool false) ∧ w' = w := by
  go_enter Tryz.func33, Tryz.ntmps33
  go_wp2
  go_ret
  exact ⟨rfl, rfl⟩

theorem refl.valueOf27 (t : Addr) (w : World) : (ReflectliteValue.unpack (.iface 89 (.pointer (some t)))).run Tryz.prog w
    = .ok (.agg #[.pointer (some ⟨2, 89, none⟩), .pointer (some ⟨w.heap.size, 0, none⟩), .int .u64 150]) (w.alloc (.cells #[.pointer (some t)] 89)) := by kernel_rfl
theorem refl.type27 (a : Addr) (w : World) : (ReflectliteValue.methodAny (ReflectliteValue.valueError "reflectlite.Value.Type" 0) (fun t _ _ _ => ReflectliteType.toType t) #[.agg #[.pointer (some ⟨2, 89, none⟩), .pointer (some a), .int .u64 150]]).run Tryz.prog w
    = .ok (.iface 171 (.agg #[.pointer (some ⟨2, 89, none⟩)])) w := by kernel_rfl
theorem refl.methodKind (h : Value) (w : World) : (Go.method 337 171 (.agg #[h]) "Kind").run Tryz.prog w = .ok (141, h) w := by kernel_rfl
theorem refl.kind27 (w : World) : ((ReflectliteType.abiMethod fun t => (fun a : Nat => Value.int IntKind.u8 (a : Int)) <$> Rtype.kind t) #[.pointer (some ⟨2, 89, none⟩)]).run Tryz.prog w = .ok (.int .u8 22) w := by kernel_rfl
theorem refl.kind25 (w : World) : ((ReflectliteType.abiMethod fun t => (fun a : Nat => Value.int IntKind.u8 (a : Int)) <$> Rtype.kind t) #[.pointer (some ⟨2, 57, none⟩)]).run Tryz.prog w = .ok (.int .u8 22) w := by kernel_rfl

theorem rlm (z : Sem Value) (f : TypeId → Addr → Nat → Nat → Sem Value) (v : Value) :
    ReflectliteValue.method z f #[v] = (do match ← ReflectliteValue.parts v with | none => z | some (t, a, fl) => f t a fl (fl % 32)) := rfl
theorem refl.parts27 (a : Addr) (w : World) : (ReflectliteValue.parts (.agg #[.pointer (some ⟨2, 89, none⟩), .pointer (some a), .int .u64 150])).run Tryz.prog w = .ok (some (89, a, 150)) w := by kernel_rfl
theorem refl.isNil27 (a p : Addr) (W : World) (ha : W.cell? a = some (.pointer (some p))) :
    (ReflectliteValue.method (ReflectliteValue.valueError "reflectlite.Value.IsNil" 0) ReflectliteValue.isNil #[.agg #[.pointer (some ⟨2, 89, none⟩), .pointer (some a), .int .u64 150]]).run Tryz.prog W = .ok (.bool false) W := by
  rw [rlm]
  simp only [Sem.run_bind, refl.parts27, Result.andThen]
  simp [ReflectliteValue.isNil, loadVar, isAgg, underlying, Tryz.underlying89, ha, Result.andThen]

theorem refl.methodElem (h : Value) (w : World) : (Go.method 337 171 (.agg #[h]) "Elem").run Tryz.prog w = .ok (155, .agg #[h]) w := by kernel_rfl
theorem refl.methodImplements (h : Value) (w : World) : (Go.method 337 171 (.agg #[h]) "Implements").run Tryz.prog w = .ok (156, .agg #[h]) w := by kernel_rfl
theorem refl.methodAssignableTo (h : Value) (w : World) : (Go.method 337 171 (.agg #[h]) "AssignableTo").run Tryz.prog w = .ok (153, .agg #[h]) w := by kernel_rfl
theorem refl.elem27 (w : World) : (ReflectliteType.method ReflectliteType.elem #[.agg #[.pointer (some ⟨2, 89, none⟩)]]).run Tryz.prog w = .ok (.iface 171 (.agg #[.pointer (some ⟨2, 57, none⟩)])) w := by kernel_rfl
theorem refl.implements25 (w : World) : (ReflectliteType.relation "Implements" ReflectliteType.implements_ #[.agg #[.pointer (some ⟨2, 57, none⟩)], .iface 171 (.agg #[.pointer (some ⟨2, 87, none⟩)])]).run Tryz.prog w = .ok (.bool true) w := by kernel_rfl
theorem refl.typeOf25 (v : Value) (w : World) : (ReflectliteType.typeOf #[.iface 57 v]).run Tryz.prog w = .ok (.iface 171 (.agg #[.pointer (some ⟨2, 57, none⟩)])) w := by kernel_rfl
theorem refl.assignable25 (w : World) : (ReflectliteType.relation "AssignableTo" ReflectliteType.assignableTo #[.agg #[.pointer (some ⟨2, 57, none⟩)], .iface 171 (.agg #[.pointer (some ⟨2, 57, none⟩)])]).run Tryz.prog w = .ok (.bool true) w := by kernel_rfl
theorem refl.valueOf25 (e : Addr) (w : World) : (ReflectliteValue.unpack (.iface 57 (.pointer (some e)))).run Tryz.prog w
    = .ok (.agg #[.pointer (some ⟨2, 57, none⟩), .pointer (some ⟨w.heap.size, 0, none⟩), .int .u64 150]) (w.alloc (.cells #[.pointer (some e)] 57)) := by kernel_rfl

theorem refl.elemOf27 (w : World) : (Rtype.elem? 89).run Tryz.prog w = .ok (some 57) w := by kernel_rfl
theorem refl.mk25 (p : Addr) (w : World) : (ReflectliteValue.mk 57 p ReflectliteValue.flagAddr).run Tryz.prog w = .ok (.agg #[.pointer (some ⟨2, 57, none⟩), .pointer (some p), .int .u64 406]) w := by kernel_rfl
theorem refl.elemV27 (a p : Addr) (W : World) (ha : W.cell? a = some (.pointer (some p))) :
    (ReflectliteValue.method (ReflectliteValue.valueError "reflectlite.Value.Elem" 0) ReflectliteValue.elem #[.agg #[.pointer (some ⟨2, 89, none⟩), .pointer (some a), .int .u64 150]]).run Tryz.prog W
      = .ok (.agg #[.pointer (some ⟨2, 57, none⟩), .pointer (some p), .int .u64 406]) W := by
  rw [rlm]
  simp only [Sem.run_bind, refl.parts27, Result.andThen]
  simp [ReflectliteValue.elem, loadVar, isAgg, underlying, Tryz.underlying89, ha, Result.andThen, refl.elemOf27, refl.mk25]
theorem rls (v x : Value) : ReflectliteValue.set #[v, x] = (do
    let (some (dst, a, fl), some (src, b, _)) := (← ReflectliteValue.parts v, ← ReflectliteValue.parts x)
      | unsupported (.noEntry "extern/(internal/reflectlite.Value).Set.zeroValue")
    if fl / ReflectliteValue.flagAddr % 2 == 0 then unsupported (.noEntry "extern/(internal/reflectlite.Value).Set.unaddressable")
    let val ← loadVar src b
    if ← Rtype.directlyAssignable dst src then storeVar dst a val
    else if ← Rtype.implements dst src then
      if (← Rtype.kind src) == 20 then
        match val with
        | .nilIface => unsupported (.noEntry "extern/reflectlite: a nil value of one interface type handed on as a value of another")
        | _ => storeVar dst a val
      else storeVar dst a (.iface src val)
    else panicString ("reflectlite.Set: value of type " ++ (← Rtype.spelt src) ++ " is not assignable to type " ++ (← Rtype.spelt dst))
    pure (.tuple #[])) := rfl
theorem refl.parts25a (a : Addr) (w : World) : (ReflectliteValue.parts (.agg #[.pointer (some ⟨2, 57, none⟩), .pointer (some a), .int .u64 406])).run Tryz.prog w = .ok (some (57, a, 406)) w := by kernel_rfl
theorem refl.parts25 (a : Addr) (w : World) : (ReflectliteValue.parts (.agg #[.pointer (some ⟨2, 57, none⟩), .pointer (some a), .int .u64 150])).run Tryz.prog w = .ok (some (57, a, 150)) w := by kernel_rfl
theorem refl.direct25 (w : World) : (Rtype.directlyAssignable 57 57).run Tryz.prog w = .ok true w := by kernel_rfl
theorem refl.size25 (w : World) : (sizeOf 57).run Tryz.prog w = .ok 1 w := by kernel_rfl
theorem refl.set25 (ta b e : Addr) (old : Value) (W : World) (hb : W.cell? b = some (.pointer (some e))) (ht : W.cell? ta = some old) (hf : W.frozen? ta = false) :
    (ReflectliteValue.set #[.agg #[.pointer (some ⟨2, 57, none⟩), .pointer (some ta), .int .u64 406], .agg #[.pointer (some ⟨2, 57, none⟩), .pointer (some b), .int .u64 150]]).run Tryz.prog W
      = .ok (.tuple #[]) (W.setCell ta (.pointer (some e))) := by
  rw [rls]
  simp only [Sem.run_bind, refl.parts25a, refl.parts25, Result.andThen]
  simp [ReflectliteValue.flagAddr, loadVar, isAgg, underlying, Tryz.underlying57, hb, Result.andThen, refl.direct25, storeVar, Value.cells, storeCells, Addr.add]
  rw [run_store Tryz.prog W ta _ _ (by rfl)]
  simp [ht, hf]

set_option maxHeartbeats 4000000 in
theorem as_hit (e t : Addr) (old : Value) (w : World) (hg : w.cell? ⟨0, 0, none⟩ = some (.iface 171 (.agg #[.pointer (some ⟨2, 87, none⟩)]))) (ht0 : w.cell? t = some old) (hf0 : w.frozen? t = false) :
    Calls Tryz.prog 33 #[.iface 57 (.pointer (some e)), .iface 89 (.pointer (some t))] w fun ev w' => ev = .returned (.bool true) ∧ w' = ((((w.alloc (.cells #[.pointer (some t)] 89)).alloc (.cells #[.pointer (some ⟨2, 89, none⟩), .pointer (some ⟨w.heap.size, 0, none⟩), .int .u64 150] 132)).alloc (.cells #[.pointer (some ⟨2, 89, none⟩), .pointer (some ⟨w.heap.size, 0, none⟩), .int .u64 150] 132)).alloc (.cells #[.pointer (some e)] 57)).setCell t (.pointer (some e)) := by
  have h6 := @run_callFunc_extern Tryz.prog 63 _ (fun args => ReflectliteValue.unpack (args.getD 0 (.tuple #[]))) Tryz.func63 (by kernel_rfl) (by kernel_rfl) (by kernel_rfl) (by kernel_rfl)
  have h7 := @run_callFunc_extern Tryz.prog 64 _ (ReflectliteValue.methodAny (ReflectliteValue.valueError "reflectlite.Value.Type" 0) (fun t _ _ _ => ReflectliteType.toType t)) Tryz.func64 (by kernel_rfl) (by kernel_rfl) (by kernel_rfl) (by kernel_rfl)
  have h8 := @run_callFunc_extern Tryz.prog 65 _ (ReflectliteValue.method (ReflectliteValue.valueError "reflectlite.Value.IsNil" 0) ReflectliteValue.isNil) Tryz.func65 (by kernel_rfl) (by kernel_rfl) (by kernel_rfl) (by kernel_rfl)
  have h27 := @run_callFunc_extern Tryz.prog 141 _ (ReflectliteType.abiMethod fun t => do pure (.int .u8 (← Rtype.kind t))) Tryz.func141 (by kernel_rfl) (by kernel_rfl) (by kernel_rfl) (by kernel_rfl)
  have h37 := @run_callFunc_extern Tryz.prog 155 _ (ReflectliteType.method ReflectliteType.elem) Tryz.func155 (by kernel_rfl) (by kernel_rfl) (by kernel_rfl) (by kernel_rfl)
  have h38 := @run_callFunc_extern Tryz.prog 156 _ (ReflectliteType.relation "Implements" ReflectliteType.implements_) Tryz.func156 (by kernel_rfl) (by kernel_rfl) (by kernel_rfl) (by kernel_rfl)
  have h10 := @run_callFunc_extern Tryz.prog 83 _ ReflectliteType.typeOf Tryz.func83 (by kernel_rfl) (by kernel_rfl) (by kernel_rfl) (by kernel_rfl)
  have h35 := @run_callFunc_extern Tryz.prog 153 _ (ReflectliteType.relation "AssignableTo" ReflectliteType.assignableTo) Tryz.func153 (by kernel_rfl) (by kernel_rfl) (by kernel_rfl) (by kernel_rfl)
  have h11 := @run_callFunc_extern Tryz.prog 98 _ (ReflectliteValue.method (ReflectliteValue.valueError "reflectlite.Value.Elem" 0) ReflectliteValue.elem) Tryz.func98 (by kernel_rfl) (by kernel_rfl) (by kernel_rfl) (by kernel_rfl)
  have h12 := @run_callFunc_extern Tryz.prog 99 _ ReflectliteValue.set Tryz.func99 (by kernel_rfl) (by kernel_rfl) (by kernel_rfl) (by kernel_rfl)
  have tO := refl.typeOf25
  have mA := refl.methodAssignableTo
  have a25 := refl.assignable25
  have v25 := refl.valueOf25
  have f6 := refl.valueOf27
  have f7 := refl.type27
  have mK := refl.methodKind
  have mE := refl.methodElem
  have mI := refl.methodImplements
  have k27 := refl.kind27
  have k25 := refl.kind25
  have e27 := refl.elem27
  have i25 := refl.implements25
  have n8 := refl.isNil27 ⟨w.heap.size, 0, none⟩ t ((w.alloc (.cells #[.pointer (some t)] 89)).alloc (.cells #[.pointer (some ⟨2, 89, none⟩), .pointer (some ⟨w.heap.size, 0, none⟩), .int .u64 150] 132)) (by simp)
  have hlt : 0 < w.heap.size := by
    rcases Nat.eq_zero_or_pos w.heap.size with h0 | h
    · simp [World.cell?, h0] at hg
    · exact h
  have hg2 : ((w.alloc (.cells #[.pointer (some t)] 89)).alloc (.cells #[.pointer (some ⟨2, 89, none⟩), .pointer (some ⟨w.heap.size, 0, none⟩), .int .u64 150] 132)).cell? ⟨0, 0, none⟩ = some (.iface 171 (.agg #[.pointer (some ⟨2, 87, none⟩)])) := by
    rw [World.cell?_alloc_lt _ _ ⟨0, 0, none⟩ (by simp), World.cell?_alloc_lt _ _ ⟨0, 0, none⟩ hlt]; exact hg
  have htl : t.block < w.heap.size := by
    rcases Nat.lt_or_ge t.block w.heap.size with h | h
    · exact h
    · simp [World.cell?, Array.getElem?_eq_none h] at ht0
  have el := refl.elemV27 ⟨w.heap.size, 0, none⟩ t (((w.alloc (.cells #[.pointer (some t)] 89)).alloc (.cells #[.pointer (some ⟨2, 89, none⟩), .pointer (some ⟨w.heap.size, 0, none⟩), .int .u64 150] 132)).alloc (.cells #[.pointer (some ⟨2, 89, none⟩), .pointer (some ⟨w.heap.size, 0, none⟩), .int .u64 150] 132)) (by rw [World.cell?_alloc_lt _ _ ⟨w.heap.size, 0, none⟩ (by simp; omega)]; simp)
  have st := refl.set25 t ⟨w.heap.size + 1 + 1 + 1, 0, none⟩ e old ((((w.alloc (.cells #[.pointer (some t)] 89)).alloc (.cells #[.pointer (some ⟨2, 89, none⟩), .pointer (some ⟨w.heap.size, 0, none⟩), .int .u64 150] 132)).alloc (.cells #[.pointer (some ⟨2, 89, none⟩), .pointer (some ⟨w.heap.size, 0, none⟩), .int .u64 150] 132)).alloc (.cells #[.pointer (some e)] 57))
    (by rw [World.cell?_alloc_at _ _ _ _ (by simp)]; rfl)
    (by rw [World.cell?_alloc_lt _ _ t (by simp; omega), World.cell?_alloc_lt _ _ t (by simp; omega), World.cell?_alloc_lt _ _ t (by simp; omega), World.cell?_alloc_lt _ _ t htl]; exact ht0)
    (by rw [World.frozen?_alloc_old _ _ t (by simp; omega), World.frozen?_alloc_old _ _ t (by simp; omega), World.frozen?_alloc_old _ _ t (by simp; omega), World.frozen?_alloc_old _ _ t (Nat.ne_of_lt htl)]; exact hf0)
  go_enter Tryz.func33, Tryz.ntmps33
  go_wp2
  refine wp_loop_rounds 1 ?_
  rw [rounds_succ]
  go_wp2
  go_ret
  exact ⟨rfl, rfl⟩
end Go.Proofs.YtjfikkjaifdkiaaGreatDoor

namespace Go.Proofs.YtjfikkjaifdkiaaGreatDoor
open Go.RowKit Go.Extern.Stop Go.Stop Go.Extern

theorem refl.typeOf32 (v : Value) (w : World) : (ReflectliteType.typeOf #[.iface 32 v]).run Tryz.prog w = .ok (.iface 171 (.agg #[.pointer (some ⟨2, 32, none⟩)])) w := by kernel_rfl
theorem refl.methodComparable (h : Value) (w : World) : (Go.method 337 171 (.agg #[h]) "Comparable").run Tryz.prog w = .ok (154, .agg #[h]) w := by kernel_rfl
theorem refl.comparable32 (w : World) : (ReflectliteType.method (fun t => do Rtype.noPackHeld "Comparable" t; (fun a : TypeInfo => Value.bool a.comparable) <$> Go.typeInfo t) #[.agg #[.pointer (some ⟨2, 32, none⟩)]]).run Tryz.prog w = .ok (.bool true) w := by kernel_rfl
theorem refl.eqNil (z : Int) (w : World) : (binOp .eql 87 .nilIface (.iface 32 (.int .i64 z))).run Tryz.prog w = .ok (.bool false) w := by kernel_rfl
theorem refl.eqPtr (a : Addr) (z : Int) (w : World) : (binOp .eql 87 (.iface 57 (.pointer (some a))) (.iface 32 (.int .i64 z))).run Tryz.prog w = .ok (.bool false) w := by kernel_rfl
theorem refl.eqBig (w : World) : (binOp .eql 87 (.iface 32 (.int .i64 3)) (.iface 32 (.int .i64 3))).run Tryz.prog w = .ok (.bool true) w := by kernel_rfl
set_option maxRecDepth 20000 in
theorem is_nil (z : Int) (w : World) :
    Calls Tryz.prog 42 #[.nilIface, .iface 32 (.int .i64 z)] w fun e w' => e = .returned (.bool false) ∧ w' = w := by
  have h1 := refl.eqNil z
  go_enter Tryz.func42, Tryz.ntmps42
  go_wp2_with fail
  go_ret
  exact ⟨rfl, rfl⟩
set_option maxRecDepth 20000 in
theorem unwrap_any (b : Nat) (z : Int) (w : World) (c1 : w.cell? ⟨b, 1, none⟩ = some (.int .i64 z)) :
    Calls Tryz.prog 146 #[.pointer (some ⟨b, 0, none⟩)] w fun e w' => e = .returned (.iface 32 (.int .i64 z)) ∧ w' = w := by
  go_enter Tryz.func146, Tryz.ntmps146
  go_wp2_with fail
  go_ret
  exact ⟨rfl, rfl⟩

theorem refl.lacksIs (v : Value) (w : World) : (Instr.typeAssert (.iface 57 v) 87 194 true).run Tryz.prog w = .ok (.tuple #[.nilIface, .bool false]) w := run_typeAssert_lacksB Tryz.underlying194 (by kernel_rfl) (by kernel_rfl) v 87 w
theorem refl.hasUnwrap (v : Value) (w : World) : (Instr.typeAssert (.iface 57 v) 87 178 true).run Tryz.prog w = .ok (.tuple #[.iface 57 v, .bool true]) w := run_typeAssert_hasB Tryz.underlying178 (by kernel_rfl) v 87 w
theorem refl.methodUnwrap (h : Value) (w : World) : (Go.method 337 57 h "Unwrap").run Tryz.prog w = .ok (146, h) w := by kernel_rfl
set_option maxRecDepth 20000 in
set_option maxHeartbeats 1000000 in
/-- The loop of errors.Is, at a fault of the number 3. -/
theorem isin_any (b : Nat) (w : World) (c1 : w.cell? ⟨b, 1, none⟩ = some (.int .i64 3)) :
    Calls Tryz.prog 84 #[.iface 57 (.pointer (some ⟨b, 0, none⟩)), .iface 32 (.int .i64 3), .bool true] w fun e w' => e = .returned (.bool true) ∧ w' = w := by
  have h1 := refl.eqPtr ⟨b, 0, none⟩ 3
  have h2 := refl.eqBig
  have h3 := refl.methodUnwrap
  have HU := Lib.hid (unwrap_any b 3 w c1)
  go_enter Tryz.func84, Tryz.ntmps84
  have h4 := refl.lacksIs
  have h5 := refl.hasUnwrap
  go_wp2_with fail
  refine wp_loop_rounds 2 ?_
  rw [rounds_succ]
  go_wp2_with (go_at_call 146; (with_reducible refine HU.out.mono ?_); rintro e w1 ⟨rfl, rfl⟩)
  rw [rounds_succ]
  go_wp2_with fail
  go_ret
  exact ⟨rfl, rfl⟩
set_option maxRecDepth 20000 in
set_option maxHeartbeats 1000000 in
/-- errors.Is at a fault of the number 3. -/
theorem is_big (b : Nat) (w : World) (c1 : w.cell? ⟨b, 1, none⟩ = some (.int .i64 3)) :
    Calls Tryz.prog 42 #[.iface 57 (.pointer (some ⟨b, 0, none⟩)), .iface 32 (.int .i64 3)] w fun e w' => e = .returned (.bool true) ∧ w' = w := by
  have h89 := @run_callFunc_extern Tryz.prog 83 _ ReflectliteType.typeOf Tryz.func83 (by kernel_rfl) (by kernel_rfl) (by kernel_rfl) (by kernel_rfl)
  have h158 := @run_callFunc_extern Tryz.prog 154 _ (ReflectliteType.method (fun t => do Rtype.noPackHeld "Comparable" t; pure (.bool (← Go.typeInfo t).comparable))) Tryz.func154 (by kernel_rfl) (by kernel_rfl) (by kernel_rfl) (by kernel_rfl)
  have h1 := refl.typeOf32
  have h2 := refl.methodComparable
  have h3 := refl.comparable32
  have HI := Lib.hid (isin_any b w c1)
  go_enter Tryz.func42, Tryz.ntmps42
  go_wp2_with (go_at_call 84; (with_reducible refine HI.out.mono ?_); rintro e w1 ⟨rfl, rfl⟩)
  go_ret
  exact ⟨rfl, rfl⟩
end Go.Proofs.YtjfikkjaifdkiaaGreatDoor

namespace Go.Proofs.YtjfikkjaifdkiaaGreatDoor
open Go.RowKit

set_option maxRecDepth 20000 in
set_option maxHeartbeats 2000000 in
/-- 'burn': no fuel. -/
theorem burn_none {M : List (Nat × Obj)} {bw : Nat} {vf : Value} {fs : List Fl} {most : Nat} {st : Ex.St} (name : List UInt8) (w : World) (h : Wk M w bw vf fs most st) (h0 : st.fuel = 0) :
    Calls Tryz.prog 78 #[.pointer (some ⟨bw, 0, none⟩), .string (S name)] w fun e w' => ∃ v, e = .returned v ∧ Wk M w' bw vf fs most st ∧ Er w' v (some (9, name)) ∧ Below w.heap.size w w' := by
  have hba : Below w.heap.size w (w.alloc (.cells #[.string (S name), .int .i64 9] 59)) := (Below.refl _ _).alloc (Nat.le_refl _) _
  have HW := Lib.hid (h.below hba)
  have HB := Lib.hid hba
  have HE : Hid (Er (w.alloc (.cells #[.string (S name), .int .i64 9] 59)) (.iface 57 (.pointer (some ⟨w.heap.size, 0, none⟩))) (some (9, name))) := Lib.hid ⟨w.heap.size, rfl, heap_alloc_new w _⟩
  obtain ⟨vin, vm, vL, vR, vN, ps, h1, h2⟩ := h
  have c3 := h1.cell (i := 3) rfl
  rw [h0] at c3
  clear h1 h2 hba
  go_enter Tryz.func78, Tryz.ntmps78
  go_wp2_with fail
  go_ret
  exact ⟨_, rfl, HW.out, HE.out, HB.out⟩

/-- The whole, and blocks that are none of its own. -/
def Wkg (M : List (Nat × Obj)) (w : World) (bw : Nat) (vf : Value) (fs : List Fl) (most : Nat) (st : Ex.St) (G : Nat → Prop) : Prop :=
  ∃ (vin vm vL vR vN : Value) (ps : List (Mac × Value)), Ro w bw 53 [vf, vin, vm, .int .i64 (st.fuel : Int), .int .i64 (most : Int), vL, vR, vN, .int .i64 (st.used : Int)] ∧ Ws M w bw vf vin vm vL vR vN fs ps st ∧ ∀ g, G g → ¬ Own4 bw vL vR vN g ∧ g < w.heap.size
theorem Wkg.wk {w : World} {M : List (Nat × Obj)} {bw : Nat} {vf : Value} {fs : List Fl} {most : Nat} {st : Ex.St} {G : Nat → Prop} (h : Wkg M w bw vf fs most st G) : Wk M w bw vf fs most st := by
  obtain ⟨vin, vm, vL, vR, vN, ps, h1, h2, _⟩ := h
  exact ⟨vin, vm, vL, vR, vN, ps, h1, h2⟩
theorem Wk.wkg {w : World} {M : List (Nat × Obj)} {bw : Nat} {vf : Value} {fs : List Fl} {most : Nat} {st : Ex.St} (h : Wk M w bw vf fs most st) : Wkg M w bw vf fs most st fun _ => False := by
  obtain ⟨vin, vm, vL, vR, vN, ps, h1, h2⟩ := h
  exact ⟨vin, vm, vL, vR, vN, ps, h1, h2, fun g hg => hg.elim⟩
/-- What is new is none of its own. -/
theorem Wk.fresh {w w' : World} {M : List (Nat × Obj)} {bw : Nat} {vf : Value} {fs : List Fl} {most : Nat} {st : Ex.St} (h : Wk M w bw vf fs most st) (hb : Below w.heap.size w w') (G : Nat → Prop) (hG : ∀ g, G g → w.heap.size ≤ g ∧ g < w'.heap.size) : Wkg M w' bw vf fs most st G := by
  obtain ⟨vin, vm, vL, vR, vN, ps, h1, h2⟩ := h
  exact ⟨vin, vm, vL, vR, vN, ps, h1.kw (Kw.of_below hb) (by have := h1.lt; omega), h2.below hb, fun g hg => ⟨h2.fresh h1.lt (hG g hg).1, (hG g hg).2⟩⟩
theorem Wkg.below {w w' : World} {M : List (Nat × Obj)} {bw : Nat} {vf : Value} {fs : List Fl} {most : Nat} {st : Ex.St} {G : Nat → Prop} (h : Wkg M w bw vf fs most st G) (hb : Below w.heap.size w w') : Wkg M w' bw vf fs most st G := by
  obtain ⟨vin, vm, vL, vR, vN, ps, h1, h2, h3⟩ := h
  exact ⟨vin, vm, vL, vR, vN, ps, h1.kw (Kw.of_below hb) (by have := h1.lt; omega), h2.below hb, fun g hg => ⟨(h3 g hg).1, Nat.lt_of_lt_of_le (h3 g hg).2 hb.size⟩⟩

set_option maxRecDepth 20000 in
set_option maxHeartbeats 2000000 in
/-- 'burn': some. -/
theorem burn9_some {M : List (Nat × Obj)} {bw : Nat} {vf : Value} {fs : List Fl} {most : Nat} {st : Ex.St} {G : Nat → Prop} (name : List UInt8) (w : World) (h : Wkg M w bw vf fs most st G) (h0 : ¬ st.fuel = 0) (hf : st.fuel ≤ 1000) (hu : st.used ≤ 1000000) :
    Calls Tryz.prog 78 #[.pointer (some ⟨bw, 0, none⟩), .string (S name)] w fun e w' => e = .returned .nilIface ∧ Wkg M w' bw vf fs most (Ex.burnt st) G ∧ Kw w w' fun j => j = bw := by
  obtain ⟨n, hn⟩ : ∃ n, st.fuel = n + 1 := ⟨st.fuel - 1, by omega⟩
  have hn9 : n ≤ 1000 := by omega
  obtain ⟨u, hu9⟩ : ∃ u, u = st.used := ⟨_, rfl⟩
  rw [← hu9] at hu
  have HW : Hid (Wkg M ((w.setCell ⟨bw, 3, none⟩ (.int .i64 (n : Int))).setCell ⟨bw, 8, none⟩ (.int .i64 ((u : Int) + 1))) bw vf fs most (Ex.burnt st) G) := Lib.hid (by
    obtain ⟨vin, vm, vL, vR, vN, ps, h1, h2, h3⟩ := h
    have k1 := (h1.set 3 (.int .i64 (n : Int))).set 8 (.int .i64 ((u : Int) + 1))
    have k2 := (h2.set 3 (.int .i64 (n : Int))).set 8 (.int .i64 ((u : Int) + 1))
    refine ⟨vin, vm, vL, vR, vN, ps, ?_, ⟨k2.files, k2.inn, k2.macs, k2.fst, k2.outL, k2.reads, k2.notes, k2.ffar, k2.ifar, k2.mfar, k2.bfar, k2.mp⟩, fun g hg => ⟨(h3 g hg).1, by simpa [World.setCell] using (h3 g hg).2⟩⟩
    have e1 : (Ex.burnt st).fuel = n := by show st.fuel - 1 = n; omega
    have e2 : (((Ex.burnt st).used : Nat) : Int) = (u : Int) + 1 := by rw [hu9]; rfl
    rw [e1, e2]
    exact k1)
  have HB : Hid (Kw w ((w.setCell ⟨bw, 3, none⟩ (.int .i64 (n : Int))).setCell ⟨bw, 8, none⟩ (.int .i64 ((u : Int) + 1))) fun j => j = bw) := Lib.hid ((Kw.set w bw 3 _).trans (Kw.set _ bw 8 _) fun j _ e => e)
  obtain ⟨vin, vm, vL, vR, vN, ps, h1, h2, h3⟩ := h
  have c3 := h1.cell (i := 3) rfl
  have c8 := h1.cell (i := 8) rfl
  have f3 := h1.free 3
  have f8 := h1.free 8
  rw [hn] at c3
  rw [← hu9] at c8
  have e1 : ((n + 1 : Nat) : Int) = (n : Int) + 1 := by omega
  rw [e1] at c3
  have l1 : ¬ ((n : Int) + 1 < 1) := by omega
  clear h1 h2 h3 hn hu9 h0 hf e1
  go_enter Tryz.func78, Tryz.ntmps78
  go_wp2_with fail
  go_ret
  exact ⟨rfl, HW.out, HB.out⟩
theorem burn_some {M : List (Nat × Obj)} {bw : Nat} {vf : Value} {fs : List Fl} {most : Nat} {st : Ex.St} (name : List UInt8) (w : World) (h : Wk M w bw vf fs most st) (h0 : ¬ st.fuel = 0) (hf : st.fuel ≤ 1000) (hu : st.used ≤ 1000000) :
    Calls Tryz.prog 78 #[.pointer (some ⟨bw, 0, none⟩), .string (S name)] w fun e w' => e = .returned .nilIface ∧ Wk M w' bw vf fs most (Ex.burnt st) ∧ Below bw w w' :=
  (burn9_some name w h.wkg h0 hf hu).mono fun _ _ ⟨a, b, c⟩ => ⟨a, b.wk, c.below (fun j e => by omega) (Nat.le_of_lt h.lt)⟩
end Go.Proofs.YtjfikkjaifdkiaaGreatDoor

namespace Go.Proofs.YtjfikkjaifdkiaaGreatDoor
open Go.RowKit

theorem sorted_putL {l : List Mac} (h : Sorted (l.map Prod.fst)) (f : Mac) : Sorted ((putL l f).map Prod.fst) := by
  obtain ⟨n, hn⟩ : ∃ n, n = lb ((dropM l f.1).map Prod.fst) f.1 := ⟨_, rfl⟩
  rw [← putL_refM h f hn]
  have hd := sorted_dropM h f.1
  have hne : ∀ g ∈ dropM l f.1, g.1 ≠ f.1 := fun g hg => by
    have := (List.mem_filter.1 hg).2
    simpa using this
  obtain ⟨rest, hrest⟩ : ∃ rest, rest = dropM l f.1 := ⟨_, rfl⟩
  rw [← hrest] at hd hne hn ⊢
  clear hrest
  have hnl : n ≤ rest.length := by rw [hn]; have := lb_le (rest.map Prod.fst) f.1; simpa using this
  have hp := List.pairwise_iff_getElem.1 hd
  have hlow : ∀ x (hx : x < rest.length), x < n → Lib.compareBytes rest[x].1 f.1 < 0 := fun x hx hxn => by
    have := lb_lt (ns := rest.map Prod.fst) (t := f.1) (x := x) (by simpa using hx) (by rw [← hn]; exact hxn)
    simpa using this
  have hhigh : ∀ x (hx : x < rest.length), n ≤ x → Lib.compareBytes f.1 rest[x].1 < 0 := fun x hx hxn => by
    have h0 : 0 ≤ Lib.compareBytes rest[n].1 f.1 := by
      have := lb_ge (ns := rest.map Prod.fst) (t := f.1) (by rw [← hn, List.length_map]; omega)
      simp only [← hn, List.getElem_map] at this
      exact this
    have h1 : Lib.compareBytes rest[n].1 f.1 ≠ 0 := fun e => hne rest[n] (List.getElem_mem _) (cb_eq e)
    have h2 : Lib.compareBytes f.1 rest[n].1 < 0 := by rw [cb_swap]; omega
    by_cases e : x = n
    · subst e; exact h2
    · have h3 := hp n x (by rw [List.length_map]; omega) (by rw [List.length_map]; exact hx) (by omega)
      rw [List.getElem_map, List.getElem_map] at h3
      exact cb_trans h2 h3
  unfold Sorted
  rw [List.map_append, List.map_cons, List.pairwise_append, List.pairwise_cons]
  have hd' : (rest.map Prod.fst).Pairwise fun a b => Lib.compareBytes a b < 0 := hd
  refine ⟨?_, ⟨?_, ?_⟩, ?_⟩
  · exact hd'.sublist ((List.take_sublist n rest).map _)
  · intro a ha
    obtain ⟨g, hg, rfl⟩ := List.mem_map.1 ha
    obtain ⟨j, hj, rfl⟩ := List.getElem_of_mem hg
    rw [List.length_drop] at hj
    rw [List.getElem_drop]
    exact hhigh (n + j) (by omega) (by omega)
  · exact hd'.sublist ((List.drop_sublist n rest).map _)
  · intro a ha b hb
    obtain ⟨g, hg, rfl⟩ := List.mem_map.1 ha
    obtain ⟨i, hi, rfl⟩ := List.getElem_of_mem hg
    rw [List.length_take] at hi
    rw [List.getElem_take]
    have h4 := hlow i (by omega) (by omega)
    rcases List.mem_cons.1 hb with rfl | hb
    · exact h4
    · obtain ⟨g, hg, rfl⟩ := List.mem_map.1 hb
      obtain ⟨j, hj, rfl⟩ := List.getElem_of_mem hg
      rw [List.length_drop] at hj
      rw [List.getElem_drop]
      exact cb_trans h4 (hhigh (n + j) (by omega) (by omega))
theorem mputL_len (l : List Mac) (f : Mac) : (putL l f).length ≤ l.length + 1 := by
  unfold putL
  split
  · simp
  · rw [List.length_append, List.length_cons, List.length_take, List.length_drop]; omega
theorem putM_cases (l : List Mac) (f : Mac) : ((putM l f).2 = 0 ∧ (putM l f).1 = putL l f) ∨ ((putM l f).2 ≠ 0 ∧ (putM l f).1 = []) := by
  unfold putM
  split
  · simp
  · split
    · simp
    · split
      · simp
      · simp
end Go.Proofs.YtjfikkjaifdkiaaGreatDoor

namespace Go.Proofs.YtjfikkjaifdkiaaGreatDoor

theorem lexF_len (n : Nat) : ∀ s : List UInt8, (Lx.lexF n s).length ≤ s.length := by
  induction n with
  | zero => intro s; simp [Lx.lexF]
  | succ n ih =>
    intro s
    cases s with
    | nil => simp [Lx.lexF]
    | cons c r =>
      have := ih (Lx.one (c :: r)).2
      have := Lx.one_lt c r
      simp [Lx.lexF]; omega
theorem lex_len (s : List UInt8) : (Lx.lex s).length ≤ s.length := lexF_len _ s

theorem word_each (s : List UInt8) : (Lx.word s).1.length ≤ s.length := by
  induction s using Lx.word.induct with
  | case1 => simp [Lx.word]
  | case2 c h => simp [Lx.word, h]
  | case3 c h => simp [Lx.word, h]
  | case4 c d r h h2 ih => rw [Lx.word, if_pos h, if_pos h2]; simp; omega
  | case5 c d r h h2 ih => rw [Lx.word, if_pos h, if_neg h2]; simp at ih ⊢; omega
  | case6 c d r h => rw [Lx.word, if_neg h]; simp

theorem takeWhile_le (p : UInt8 → Bool) (l : List UInt8) : (l.takeWhile p).length ≤ l.length := by
  induction l with
  | nil => simp
  | cons c r ih => rw [List.takeWhile_cons]; split <;> simp <;> omega

theorem one_each (c : UInt8) (r : List UInt8) : (Lx.one (c :: r)).1.2.length ≤ r.length + 1 := by
  have := word_each (c :: r)
  have := takeWhile_le Lx.letter r
  rw [Lx.one_cons]
  (repeat' split) <;> simp at * <;> omega

theorem lexF_each (n : Nat) : ∀ s : List UInt8, ∀ t ∈ Lx.lexF n s, t.2.length ≤ s.length := by
  induction n with
  | zero => intro s; simp [Lx.lexF]
  | succ n ih =>
    intro s
    cases s with
    | nil => simp [Lx.lexF]
    | cons c r =>
      intro t ht
      have h1 := Lx.one_lt c r
      rw [Lx.lexF, List.mem_cons] at ht
      rcases ht with rfl | ht
      · exact one_each c r
      · have := ih _ t ht
        simp; omega
theorem lex_each (s : List UInt8) : ∀ t ∈ Lx.lex s, t.2.length ≤ s.length := lexF_each _ s


end Go.Proofs.YtjfikkjaifdkiaaGreatDoor

namespace Go.Proofs.YtjfikkjaifdkiaaGreatDoor
namespace Ex
open Lx

/-- What an expansion keeps. -/
structure Ok (most B T : Nat) (st : St) : Prop where
  inl : st.inn.length ≤ B
  int : ∀ t ∈ st.inn, t.2.length ≤ T
  mac : ∀ m ∈ st.macs, m.1.length ≤ T ∧ 0 ≤ m.2.1 ∧ m.2.1 ≤ 9 ∧ m.2.2.length ≤ B ∧ ∀ t ∈ m.2.2, t.2.length ≤ T
  srt : Sorted (st.macs.map Prod.fst)
  mln : st.macs.length ≤ 40
  rln : st.reads.length ≤ 32
  out : st.outL.length ≤ most
theorem Ok.note {most B T : Nat} {st : St} (h : Ok most B T st) (e : Int) (s : List UInt8) : Ok most B T (note st e s) := ⟨h.inl, h.int, h.mac, h.srt, h.mln, h.rln, h.out⟩
theorem Ok.inn {most B T : Nat} {st : St} (h : Ok most B T st) {r : List Tok} (hl : r.length ≤ B) (ht : ∀ t ∈ r, t.2.length ≤ T) : Ok most B T { st with inn := r } := ⟨hl, ht, h.mac, h.srt, h.mln, h.rln, h.out⟩
theorem Ok.rest {most B T : Nat} {st : St} (h : Ok most B T st) (tq : Nat) : Ok most B T { st with inn := st.inn.drop tq } :=
  h.inn (by rw [List.length_drop]; have := h.inl; omega) fun t ht => h.int t (List.mem_of_mem_drop ht)
theorem Ok.burnt {most B T : Nat} {st : St} (h : Ok most B T st) : Ok most B T (burnt st) := ⟨h.inl, h.int, h.mac, h.srt, h.mln, h.rln, h.out⟩
theorem Ok.ask {most B T : Nat} {st : St} (h : Ok most B T st) {name : List UInt8} (hn : ¬ (32 ≤ st.reads.length ∧ st.reads.contains name = false)) : Ok most B T (Ex.ask st name) := by
  unfold Ex.ask
  split
  · exact h
  · rename_i hc
    refine ⟨h.inl, h.int, h.mac, h.srt, h.mln, ?_, h.out⟩
    rw [List.length_append, List.length_singleton]
    have hc : st.reads.contains name = false := by simpa using hc
    have : ¬ 32 ≤ st.reads.length := fun h9 => hn ⟨h9, hc⟩
    omega
theorem Ok.come {most B T : Nat} {st : St} (h : Ok most B T st) (hmB : most ≤ B) (name : List UInt8) {l : List Tok} (hl : ∀ t ∈ l, t.2.length ≤ T) : Ok most B T (Ex.come most st name l) := by
  unfold Ex.come
  split
  · exact h.note _ _
  · rename_i hc
    refine h.inn (by rw [List.length_append]; omega) fun t ht => ?_
    rcases List.mem_append.1 ht with ht | ht
    · exact hl t ht
    · exact h.int t ht
theorem mem_putL9 {l : List Mac} {f m : Mac} (h : m ∈ putL l f) : m = f ∨ m ∈ l := by
  unfold putL at h
  split at h
  · rcases List.mem_or_eq_of_mem_set h with h | h
    · exact .inr h
    · exact .inl h
  · rcases List.mem_append.1 h with h | h
    · exact .inr (List.mem_of_mem_take h)
    · rcases List.mem_cons.1 h with h | h
      · exact .inl h
      · exact .inr (List.mem_of_mem_drop h)
theorem putM_zero {l : List Mac} {f : Mac} (h : (putM l f).2 = 0) (hl : l.length ≤ 40) : (putM l f).1 = putL l f ∧ (putL l f).length ≤ 40 ∧ 0 ≤ f.2.1 ∧ f.2.1 ≤ 9 := by
  unfold putM at h ⊢
  split at h
  · cases h
  · rename_i h1
    rw [if_neg h1]
    split at h
    · cases h
    · rename_i h2
      rw [if_neg h2]
      split at h
      · cases h
      · rename_i h3
        rw [if_neg h3]
        refine ⟨rfl, ?_, by omega, by omega⟩
        by_cases hc : (l.map Prod.fst).contains f.1 = true
        · unfold putL
          rw [if_pos hc, List.length_set]
          exact hl
        · have hc : (l.map Prod.fst).contains f.1 = false := by simpa using hc
          have := mputL_len l f
          have : ¬ 40 ≤ l.length := fun h9 => h3 ⟨hc, h9⟩
          omega
theorem Ok.put {most B T : Nat} {st : St} (h : Ok most B T st) {m : Mac} (hm : m.1.length ≤ T ∧ m.2.2.length ≤ B ∧ ∀ t ∈ m.2.2, t.2.length ≤ T) (h0 : (putM st.macs m).2 = 0) : Ok most B T { st with macs := (putM st.macs m).1 } := by
  obtain ⟨h1, h2, h3, h4⟩ := putM_zero h0 h.mln
  rw [h1]
  refine ⟨h.inl, h.int, fun x hx => ?_, sorted_putL h.srt m, h2, h.rln, h.out⟩
  rcases mem_putL9 hx with rfl | hx
  · exact ⟨hm.1, h3, h4, hm.2.1, hm.2.2⟩
  · exact h.mac x hx
theorem Ok.dropM {most B T : Nat} {st : St} (h : Ok most B T st) (s : List UInt8) : Ok most B T { st with macs := dropM st.macs s } :=
  ⟨h.inl, h.int, fun x hx => h.mac x (List.mem_filter.1 hx).1, sorted_dropM h.srt s, Nat.le_trans (List.length_filter_le _ _) h.mln, h.rln, h.out⟩
theorem fill_mem {ls : List (List Tok)} {l : List Tok} {t : Tok} (h : t ∈ Mx.fill ls l) : t ∈ l ∨ ∃ g ∈ ls, t ∈ g := by
  obtain ⟨u, hu, ht⟩ := List.mem_flatMap.1 h
  unfold Mx.fillOne at ht
  split at ht
  · unfold Mx.argAt at ht
    split at ht
    · right
      rename_i hc
      rw [List.getD_eq_getElem?_getD, List.getElem?_eq_getElem (by omega : (Mx.placeI u.2).toNat < ls.length)] at ht
      exact ⟨_, List.getElem_mem _, ht⟩
    · cases ht
  · rw [List.mem_singleton.1 ht]; exact .inl hu
theorem getM_mem {l : List Mac} {s : List UInt8} (h : (getM l s).2 = true) : (getM l s).1 ∈ l ∧ (getM l s).1.1 = s := by
  unfold getM at h ⊢
  cases hf : l.find? fun m => m.1 == s with
  | none => rw [hf] at h; cases h
  | some m =>
    refine ⟨List.mem_of_find?_eq_some hf, ?_⟩
    have := List.find?_some hf
    simpa using this

/-- Behind a step: the bounds stand, and what measures it is less. -/
structure Lt (most B T : Nat) (st st' : St) : Prop where
  ok : Ok most B T st'
  mu : mu B st' ≤ mu B st
  nts : st'.notes.length ≤ st.notes.length + 1
theorem Lt.of_note {most B T : Nat} {st : St} (h : Ok most B T st) (e : Int) (s : List UInt8) : Lt most B T st (note st e s) :=
  ⟨h.note e s, Nat.le_refl _, by simp [note]⟩
theorem mu_drop {B : Nat} (st : St) (tq : Nat) : mu B { st with inn := st.inn.drop tq } ≤ mu B st := by
  unfold mu
  simp only [List.length_drop]
  omega
theorem getD_in {x : List (List Tok)} {n : Nat} {P : List Tok → Prop} (h0 : P []) (h : ∀ g ∈ x, P g) : P (x.getD n []) := by
  rw [List.getD_eq_getElem?_getD]
  cases hc : x[n]? with
  | none => exact h0
  | some g => exact h g (List.mem_of_getElem? hc)
theorem lt_def {most B T : Nat} {st : St} (h : Ok most B T st) : Lt most B T st (doDef st) := by
  unfold doDef
  cases hg : gr st.inn 3 2 with
  | none => exact Lt.of_note h _ _
  | some y =>
    obtain ⟨x, ws, r⟩ := y
    obtain ⟨tq, rfl, hto, hx, hin, hws, _, _, hw⟩ := gr_some hg
    simp only
    split
    · split
      · rename_i h0
        refine ⟨(h.rest tq).put ⟨?_, ?_, ?_⟩ h0, mu_drop st tq, by simp⟩
        · refine ((List.getD_eq_getElem?_getD (l := ws) (i := 0) (a := [])) ▸ ?_ : (ws.getD 0 []).length ≤ T)
          cases hc : ws[0]? with
          | none => exact Nat.zero_le _
          | some s =>
            obtain ⟨t, ht, rfl⟩ := hw s (List.mem_of_getElem? hc)
            exact h.int t ht
        · exact getD_in (P := fun g => g.length ≤ B) (Nat.zero_le _) fun g hg => by have := (hin g hg).1; have := h.inl; omega
        · exact getD_in (P := fun g => ∀ t ∈ g, t.2.length ≤ T) (by simp) fun g hg t ht => h.int t ((hin g hg).2 t ht)
      · exact ⟨(h.rest tq).note _ _, mu_drop st tq, by simp [note]⟩
    · exact Lt.of_note h _ _
theorem lt_undef {most B T : Nat} {st : St} (h : Ok most B T st) : Lt most B T st (doUndef st) := by
  unfold doUndef
  cases hg : gr st.inn 1 1 with
  | none => exact Lt.of_note h _ _
  | some y =>
    obtain ⟨x, ws, r⟩ := y
    obtain ⟨tq, rfl, _⟩ := gr_some hg
    exact ⟨(h.rest tq).dropM _, mu_drop st tq, by simp⟩
theorem lt_ifdef {most B T : Nat} {st : St} (h : Ok most B T st) : Lt most B T st (doIfdef st) := by
  unfold doIfdef
  cases hg : gr st.inn 3 1 with
  | none => exact Lt.of_note h _ _
  | some y =>
    obtain ⟨x, ws, r⟩ := y
    obtain ⟨tq, rfl, hto, hx, hin, _⟩ := gr_some hg
    have key : ∀ n, (x.getD n []).length ≤ tq ∧ ∀ t ∈ x.getD n [], t ∈ st.inn := fun n => ⟨getD_in (P := fun g => g.length ≤ tq) (Nat.zero_le _) fun g hg => by have := (hin g hg).1; omega, getD_in (P := fun g => ∀ t ∈ g, t ∈ st.inn) (by simp) fun g hg => (hin g hg).2⟩
    have key2 : ∀ c : List Tok, c.length ≤ tq → (∀ t ∈ c, t ∈ st.inn) → Lt most B T st { st with inn := c ++ st.inn.drop tq } := fun c h1 h2 => by
      have hlen : (c ++ st.inn.drop tq).length ≤ st.inn.length := by rw [List.length_append, List.length_drop]; omega
      refine ⟨h.inn (Nat.le_trans hlen h.inl) fun t ht => ?_, ?_, by simp⟩
      · rcases List.mem_append.1 ht with ht | ht
        · exact h.int t (h2 t ht)
        · exact h.int t (List.mem_of_mem_drop ht)
      · unfold mu; simp only; omega
    simp only
    split
    · exact key2 _ (key 1).1 (key 1).2
    · exact key2 _ (key 2).1 (key 2).2
theorem mu_come {most B : Nat} {st st2 : St} (hf : st2.fuel + 1 ≤ st.fuel) (hi : st2.inn.length ≤ B) (hmB : most ≤ B) (name : List UInt8) (l : List Tok) : mu B (come most st2 name l) ≤ mu B st := by
  have h1 : st2.fuel * (B + 1) + (B + 1) ≤ st.fuel * (B + 1) := by rw [← Nat.succ_mul]; exact Nat.mul_le_mul_right _ hf
  unfold come
  split
  · unfold mu note; simp only; omega
  · unfold mu; simp only [List.length_append]; omega
theorem come_notes (most : Nat) (st : St) (name : List UInt8) (l : List Tok) : (come most st name l).notes.length ≤ st.notes.length + 1 := by
  unfold come
  split <;> simp [note]
theorem ask_same (st : St) (name : List UInt8) : (ask st name).fuel = st.fuel ∧ (ask st name).inn = st.inn ∧ (ask st name).notes = st.notes := by
  unfold ask
  split <;> exact ⟨rfl, rfl, rfl⟩
theorem lt_include {fs : List Fi.F} {most B T : Nat} {st : St} (h : Ok most B T st) (hmB : most ≤ B) (hfs : ∀ f ∈ fs, f.2.length ≤ T) : Lt most B T st (doInclude fs most st) := by
  unfold doInclude
  cases hg : gr st.inn 1 1 with
  | none => exact Lt.of_note h _ _
  | some y =>
    obtain ⟨x, ws, r⟩ := y
    obtain ⟨tq, rfl, hto, hx, hin, hws, _, _, hw⟩ := gr_some hg
    simp only
    have h2 := h.rest tq
    have hm := mu_drop (B := B) st tq
    obtain ⟨st2, hst2⟩ : ∃ st2, st2 = { st with inn := st.inn.drop tq } := ⟨_, rfl⟩
    have hn2 : st2.notes = st.notes := by rw [hst2]
    rw [← hst2] at h2 hm ⊢
    have key : ∀ (e : Int) (s : List UInt8), Lt most B T st (note st2 e s) := fun e s => ⟨h2.note e s, hm, by simp [note, hn2]⟩
    unfold incl
    split
    · exact key _ _
    · split
      · exact key _ _
      · rename_i hr
        split
        · exact key _ _
        · rename_i hf
          obtain ⟨k1, k2, k3⟩ := ask_same (burnt st2) (ws.getD 0 [])
          have h3 := h2.burnt.ask (name := ws.getD 0 []) hr
          split
          · refine ⟨h3.note _ _, ?_, by
              show ((ask (burnt st2) (ws.getD 0 [])).notes ++ [_]).length ≤ _
              rw [k3, List.length_append]
              show st2.notes.length + 1 ≤ _
              rw [hn2]
              exact Nat.le_refl _⟩
            refine Nat.le_trans ?_ hm
            show (ask (burnt st2) (ws.getD 0 [])).fuel * (B + 1) + (ask (burnt st2) (ws.getD 0 [])).inn.length ≤ st2.fuel * (B + 1) + st2.inn.length
            rw [k1, k2]
            show (st2.fuel - 1) * (B + 1) + st2.inn.length ≤ st2.fuel * (B + 1) + st2.inn.length
            have : (st2.fuel - 1) * (B + 1) ≤ st2.fuel * (B + 1) := Nat.mul_le_mul_right _ (by omega)
            omega
          · refine ⟨h3.come hmB _ fun t ht => ?_, Nat.le_trans (mu_come (by rw [k1]; show st2.fuel - 1 + 1 ≤ st2.fuel; omega) h3.inl hmB _ _) hm, ?_⟩
            · refine Nat.le_trans (lex_each _ t ht) ?_
              unfold Fi.get
              cases hc : fs.find? fun f => f.1 == ws.getD 0 [] with
              | none => exact Nat.zero_le _
              | some f => exact hfs f (List.mem_of_find?_eq_some hc)
            · have := come_notes most (ask (burnt st2) (ws.getD 0 [])) (ws.getD 0 []) (Lx.lex (Fi.get fs (ws.getD 0 [])).1)
              rw [k3] at this
              rw [← hn2]
              exact this
theorem lt_call {most B T : Nat} {st : St} (h : Ok most B T st) (hmB : most ≤ B) {m : Mac} (hm : m ∈ st.macs) : Lt most B T st (doCall most st m) := by
  unfold doCall
  cases hg : gr st.inn m.2.1 0 with
  | none => exact Lt.of_note h _ _
  | some y =>
    obtain ⟨x, ws, r⟩ := y
    obtain ⟨tq, rfl, hto, hx, hin, _⟩ := gr_some hg
    simp only
    split
    · exact ⟨(h.rest tq).note _ _, mu_drop st tq, by simp [note]⟩
    · rename_i hf
      refine ⟨(h.rest tq).burnt.come hmB _ fun t ht => ?_, mu_come (st2 := Ex.burnt { st with inn := st.inn.drop tq }) (by show st.fuel - 1 + 1 ≤ st.fuel; have hf : ¬ st.fuel = 0 := hf; omega) (h.rest tq).inl hmB _ _, ?_⟩
      · rcases fill_mem ht with ht | ⟨g, hg, ht⟩
        · exact (h.mac m hm).2.2.2.2 t ht
        · exact h.int t ((hin g hg).2 t ht)
      · exact come_notes _ _ _ _
theorem lt_cmd {fs : List Fi.F} {most B T : Nat} {st st' : St} {s : List UInt8} (h : Ok most B T st) (hmB : most ≤ B) (hfs : ∀ f ∈ fs, f.2.length ≤ T) (hc : cmd fs most st s = some st') : Lt most B T st st' := by
  unfold cmd at hc
  split at hc
  · injection hc with hc; subst hc; exact lt_def h
  · split at hc
    · injection hc with hc; subst hc; exact lt_undef h
    · split at hc
      · injection hc with hc; subst hc; exact lt_ifdef h
      · split at hc
        · injection hc with hc; subst hc; exact lt_include h hmB hfs
        · split at hc
          · rename_i hg
            injection hc with hc; subst hc; exact lt_call h hmB (getM_mem hg).1
          · cases hc
theorem lt_put {most B T : Nat} {st : St} (h : Ok most B T st) (t : Tok) : Lt most B T st (put most st t).1 := by
  unfold put
  split
  · exact Lt.of_note h _ _
  · rename_i hc
    exact ⟨⟨h.inl, h.int, h.mac, h.srt, h.mln, h.rln, by rw [List.length_append, List.length_singleton]; omega⟩, Nat.le_refl _, by simp⟩
theorem lt_step {fs : List Fi.F} {most B T : Nat} {st : St} (h : Ok most B T st) (hmB : most ≤ B) (hfs : ∀ f ∈ fs, f.2.length ≤ T) (t : Tok) : Lt most B T st (step fs most st t).1 := by
  unfold step
  split
  · cases hc : cmd fs most st t.2 with
    | none => exact lt_put h t
    | some st' => exact lt_cmd h hmB hfs hc
  · exact lt_put h t
/-- A step from a state whose first token is taken away. -/
theorem lt_next {fs : List Fi.F} {most B T : Nat} {st : St} {t : Tok} {r : List Tok} (h : Ok most B T st) (hmB : most ≤ B) (hfs : ∀ f ∈ fs, f.2.length ≤ T) (hi : st.inn = t :: r) :
    Ok most B T { st with inn := r } ∧ Ok most B T (step fs most { st with inn := r } t).1 ∧ mu B (step fs most { st with inn := r } t).1 < mu B st ∧ (step fs most { st with inn := r } t).1.notes.length ≤ st.notes.length + 1 := by
  have h1 : Ok most B T { st with inn := r } := h.inn (by have := h.inl; rw [hi] at this; simp at this; omega) fun t ht => h.int t (by rw [hi]; exact List.mem_cons_of_mem _ ht)
  have h2 := lt_step (fs := fs) h1 hmB hfs t
  refine ⟨h1, h2.ok, ?_, h2.nts⟩
  have h3 := h2.mu
  have h4 : mu B { st with inn := r } < mu B st := by unfold mu; rw [hi]; simp
  omega
theorem run_stable {fs : List Fi.F} {most B T : Nat} (hmB : most ≤ B) (hfs : ∀ f ∈ fs, f.2.length ≤ T) : ∀ (n m : Nat) (st : St), Ok most B T st → mu B st ≤ n → mu B st ≤ m → run fs most n st = run fs most m st := by
  intro n
  induction n with
  | zero =>
    intro m st h hn hm
    have hi : st.inn = [] := by
      have : st.inn.length = 0 := by unfold mu at hn; omega
      exact List.eq_nil_of_length_eq_zero this
    cases m with
    | zero => rfl
    | succ m => rw [run, run, hi]
  | succ n ih =>
    intro m st h hn hm
    cases hi : st.inn with
    | nil =>
      cases m with
      | zero => rw [run, run, hi]
      | succ m => rw [run, run, hi]
    | cons t r =>
      obtain ⟨_, h2, h3, _⟩ := lt_next (fs := fs) h hmB hfs hi
      cases m with
      | zero => unfold mu at hm; rw [hi] at hm; simp at hm
      | succ m =>
        rw [run, run, hi]
        simp only
        split
        · exact ih m _ h2 (by omega) (by omega)
        · rfl
end Ex
end Go.Proofs.YtjfikkjaifdkiaaGreatDoor

namespace Go.Proofs.YtjfikkjaifdkiaaGreatDoor
open Go.RowKit

theorem containsS_eq (l : List (List UInt8)) (x : List UInt8) : Lib.containsS (l.map S) (S x) = l.contains x := by
  rw [Bool.eq_iff_iff, Lib.containsS_iff, List.contains_iff_mem, List.mem_map]
  constructor
  · rintro ⟨y, hy, e⟩
    rw [← S_inj e]; exact hy
  · exact fun h => ⟨x, h, rfl⟩
/-- 'slices.Contains' of texts. -/
theorem containsX_any (v : Value) (l : List (List UInt8)) (x : List UInt8) (w : World) (h : Rx w v l) (hl : l.length ≤ 1000000) :
    Calls Tryz.prog 31 #[v, .string (S x)] w fun e w' => e = .returned (.bool (l.contains x)) ∧ w' = w := by
  rcases h.2 with ⟨hv, h0⟩ | ⟨b, o, cap, rfl, hlt, hc, hcap⟩
  · have hl0 : l = [] := List.eq_nil_of_length_eq_zero h0
    subst hl0
    rcases hv with rfl | ⟨p, c, rfl⟩
    · exact Tryz.slices_Contains_string_empty _ _ _ _
    · exact Tryz.slices_Contains_string_empty _ _ _ _
  · have h9 := Tryz.slices_Contains_string b o l.length cap (l.map S) (S x) w (by simp) (by omega) (fun j hj => by
      rw [List.length_map] at hj
      rw [hc j (.string (S l[j])) (by simp [xcs, hj]), List.getD_eq_getElem?_getD, List.getElem?_map, List.getElem?_eq_getElem hj]; rfl)
    rw [List.take_of_length_le (by simp), containsS_eq] at h9
    exact h9

theorem tyStrX : SlTy Tryz.prog 28 9 1 16 := SlTy.mk' (z := .string ⟨#[]⟩) Tryz.underlying28 (by kernel_rfl) rfl (by decide)

set_option maxRecDepth 20000 in
set_option maxHeartbeats 4000000 in
/-- 'ask'. -/
theorem ask9_any {M : List (Nat × Obj)} {bw : Nat} {vf : Value} {fs : List Fl} {most : Nat} {st : Ex.St} {G : Nat → Prop} (name : List UInt8) (w : World) (h : Wkg M w bw vf fs most st G) (hfs : Fi.Ord fs) (hfl : fs.length ≤ 1000000) (hr : st.reads.length ≤ 1000000) :
    Calls Tryz.prog 14 #[.pointer (some ⟨bw, 0, none⟩), .string (S name)] w fun e w' => e = .returned (.tuple #[.string (S (Fi.get fs name).1), .bool (Fi.get fs name).2]) ∧ Wkg M w' bw vf fs most (Ex.ask st name) G ∧ (∀ g, G g → w'.heap[g]? = w.heap[g]?) ∧ Below bw w w' := by
  have hlt := h.wk.lt
  have HK := Lib.hid h
  obtain ⟨vin, vm, vL, vR, vN, ps, h1, h2, h3⟩ := h
  have H3 := Lib.hid h3
  clear h3
  obtain ⟨n, hn⟩ : ∃ n, n = st.reads.length := ⟨_, rfl⟩
  obtain ⟨aR, cR, hvR⟩ := own_shape h2.reads
  subst hvR
  obtain ⟨af, cf, hvf⟩ := h2.files.shape
  subst hvf
  have HC := Lib.hid (containsX_any _ st.reads name w (own_rd h2.reads) hr)
  have HBX := Lib.hid h1
  have HWS := Lib.hid h2
  have HN := Lib.hid hn
  have HLT := Lib.hid hlt
  have HASK : Hid (st.reads.contains name = true → Ex.ask st name = st) := Lib.hid fun hq => by unfold Ex.ask; rw [if_pos hq]
  have HASK2 : Hid (st.reads.contains name = false → Ex.ask st name = { st with reads := st.reads ++ [name] }) := Lib.hid fun hq => by unfold Ex.ask; rw [if_neg (by rw [hq]; decide)]
  obtain ⟨q, hq⟩ : ∃ q, q = st.reads.contains name := ⟨_, rfl⟩
  rw [← hq] at HC HASK HASK2
  clear hq
  rw [← hn] at h1 HC hr
  have c6 := h1.cell (i := 6) rfl
  have c0 := h1.cell (i := 0) rfl
  have f6 := h1.free 6
  clear h1
  cases q
  · have HAS := Lib.hid (HASK2.out rfl)
    have hown := h2.reads
    rw [← hn] at hown
    have hbs : bw + 1 ≤ w.heap.size := by omega
    clear h2 hn hlt HASK HASK2
    go_enter Tryz.func14, Tryz.ntmps14
    go_upto_region 3 with (first
      | (go_at_call 31; (with_reducible refine HC.out.mono ?_); rintro e w1 ⟨rfl, rfl⟩)
      | (at_builtin; refine wp_app2 tyStrX rfl _ _ rfl (bw + 1) hown rfl rfl rfl rfl (by intro u hu; simp at hu; rw [hu]; rfl) (by omega) (by omega) hbs ?_; intro v7 w7 o7 d7 g7 n7; obtain ⟨a7, c7, h7⟩ := own_shape o7; subst h7; have HO7 := Lib.hid o7; have HK7 := Lib.hid (Kw.of_grown g7); have HN7 := Lib.hid n7; have hbx7 := HBX.out.kw HK7.out (HBX.out.ne_own (by decide) hown); have k6 := hbx7.cell (i := 6) rfl; have kf := hbx7.free 6; clear o7 d7 g7 n7 hbx7)
      | fail)
    obtain ⟨W3, hW3⟩ : ∃ W3, W3 = w7.setCell ⟨bw, 6, none⟩ (.slice a7 (n + 1) c7) := ⟨_, rfl⟩
    have hk3 : Wkg M W3 bw (.slice af fs.length cf) fs most (Ex.ask st name) G := by
      rw [hW3, HAS.out]
      have hk7 : Kw w1 w7 fun j => (Value.slice aR st.reads.length cR).ownBlock = some j := by rw [← HN.out]; exact HK7.out
      refine ⟨vin, vm, vL, _, vN, ps, (HBX.out.kw HK7.out (HBX.out.ne_own (by decide) hown)).set 6 _, (HWS.out.growR name hk7 (by rw [← HN.out]; exact HN7.out) (by rw [← HN.out]; exact HO7.out)).set 6 _, fun g hg => ⟨?_, Nat.lt_of_lt_of_le (H3.out g hg).2 (by have := hk7.size; simpa [World.setCell] using this)⟩⟩
      rintro (e | e | e | e)
      · exact (H3.out g hg).1 (.inl e)
      · exact (H3.out g hg).1 (.inr (.inl e))
      · rcases HN7.out with h9 | ⟨g9, h9, hle⟩
        · exact (H3.out g hg).1 (.inr (.inr (.inl (by rw [← HN.out]; exact h9.symm.trans e))))
        · rw [h9] at e
          injection e with e
          have := (H3.out g hg).2
          omega
      · exact (H3.out g hg).1 (.inr (.inr (.inr e)))
    have hb3 : Below bw w1 W3 := by
      rw [hW3]
      have h9 := HK7.out.below (B := bw) (fun j e => by have := (hown.lt j e).1; omega) (Nat.le_of_lt HLT.out)
      exact h9.trans ((Kw.set w7 bw 6 _).below (fun j e => by omega) (Nat.le_trans (Nat.le_of_lt HLT.out) h9.size))
    have HG3 : Hid (∀ g, G g → W3.heap[g]? = w1.heap[g]?) := Lib.hid fun g hg => by
      rw [hW3]
      refine ((Kw.set w7 bw 6 _).block g (Nat.lt_of_lt_of_le (H3.out g hg).2 HK7.out.size) fun e => (H3.out g hg).1 (.inl e)).trans (HK7.out.block g (H3.out g hg).2 fun e => (H3.out g hg).1 (.inr (.inr (.inl (by rw [← HN.out]; exact e)))))
    have HK3 := Lib.hid hk3
    have HB3 := Lib.hid hb3
    have d0 : W3.cell? ⟨bw, 0, none⟩ = some (.slice af fs.length cf) := by
      obtain ⟨_, _, _, _, _, _, hx, _, _⟩ := hk3
      exact hx.cell (i := 0) rfl
    have HG := Lib.hid (fget_any (.slice af fs.length cf) fs name W3 (by obtain ⟨_, _, _, _, _, _, _, hx, _⟩ := hk3; exact hx.files) hfl hfs)
    rw [← hW3]
    clear hW3 hk3 hb3 k6 kf c6 c0 f6 hown hbs hr
    go_wp2_with (go_at_call 32; (with_reducible refine HG.out.mono ?_); rintro e w8 ⟨rfl, b8⟩)
    go_ret2
    exact ⟨rfl, HK3.out.below b8, fun g hg => (b8.block g (by obtain ⟨_, _, _, _, _, _, _, _, hx⟩ := HK3.out; exact (hx g hg).2)).trans (HG3.out g hg), HB3.out.trans (b8.mono (Nat.le_of_lt HK3.out.wk.lt))⟩
  · have HAS := Lib.hid (HASK.out rfl)
    have HG := Lib.hid (fget_any (.slice af fs.length cf) fs name w h2.files hfl hfs)
    clear h2 hn hlt HASK HASK2 hr
    go_enter Tryz.func14, Tryz.ntmps14
    go_wp2_with (first
      | (go_at_call 31; (with_reducible refine HC.out.mono ?_); rintro e w1 ⟨rfl, rfl⟩)
      | (go_at_call 32; (with_reducible refine HG.out.mono ?_); rintro e w8 ⟨rfl, b8⟩)
      | fail)
    go_ret2
    refine ⟨rfl, ?_, fun g hg => b8.block g (H3.out g hg).2, b8.mono (Nat.le_of_lt HLT.out)⟩
    rw [HAS.out]
    exact HK.out.below b8
theorem ask_any {M : List (Nat × Obj)} {bw : Nat} {vf : Value} {fs : List Fl} {most : Nat} {st : Ex.St} (name : List UInt8) (w : World) (h : Wk M w bw vf fs most st) (hfs : Fi.Ord fs) (hfl : fs.length ≤ 1000000) (hr : st.reads.length ≤ 1000000) :
    Calls Tryz.prog 14 #[.pointer (some ⟨bw, 0, none⟩), .string (S name)] w fun e w' => e = .returned (.tuple #[.string (S (Fi.get fs name).1), .bool (Fi.get fs name).2]) ∧ Wk M w' bw vf fs most (Ex.ask st name) ∧ Below bw w w' :=
  (ask9_any name w h.wkg hfs hfl hr).mono fun _ _ ⟨a, b, _, c⟩ => ⟨a, b.wk, c⟩
end Go.Proofs.YtjfikkjaifdkiaaGreatDoor

namespace Go.Proofs.YtjfikkjaifdkiaaGreatDoor
open Go.RowKit

theorem results_tmp4 {fn : Func} {t u v x : Tmp} (h : fn.results = #[.tmp t, .tmp u, .tmp v, .tmp x]) (tmps : Array Value) (P : Program) (w : World) :
    (results fn tmps).run P w = .ok (.tuple #[tmps.getD t undef, tmps.getD u undef, tmps.getD v undef, tmps.getD x undef]) w := by
  simp [results, h]

theorem gr_bad {l : List Lx.Tok} {n : Int} {k : Nat} (h : (argsAt l 0 n).2.2 ≠ 0) : Ex.gr l n k = none := by
  unfold Ex.gr
  rw [if_neg (fun hc => h hc.1)]
theorem gr_word {l : List Lx.Tok} {n : Int} {k : Nat} {g : List Lx.Tok} (h : g ∈ (argsAt l 0 n).1.take k) (hw : (wordOf g).2 = false) : Ex.gr l n k = none := by
  unfold Ex.gr
  rw [if_neg]
  rintro ⟨_, hc⟩
  have := List.all_eq_true.1 hc g h
  rw [hw] at this
  cases this
theorem gr_good {l : List Lx.Tok} {n : Int} {k : Nat} (h : (argsAt l 0 n).2.2 = 0) (hw : ((argsAt l 0 n).1.take k).all (fun g => (wordOf g).2) = true) : Ex.gr l n k = some ((argsAt l 0 n).1, ((argsAt l 0 n).1.take k).map (fun g => (wordOf g).1), l.drop (argsAt l 0 n).2.1.toNat) := by
  unfold Ex.gr
  rw [if_pos ⟨h, hw⟩]
theorem argsAt_ok {l : List Lx.Tok} {n : Int} (h : (argsAt l 0 n).2.2 = 0) : (argsAt l 0 n).1.length = n.toNat ∧ 0 ≤ n ∧ n ≤ 9 ∧ ∃ tq : Nat, (argsAt l 0 n).2.1 = (tq : Int) ∧ tq ≤ l.length := by
  unfold argsAt at h ⊢
  by_cases hb : (0 : Int) < 0 ∨ (l.length : Int) < 0 ∨ n < 0 ∨ 9 < n
  · rw [if_pos hb] at h
    exact absurd h (by decide)
  · rw [if_neg hb] at h ⊢
    simp only [Int.toNat_zero, List.drop_zero] at h ⊢
    cases ha : Mx.args n.toNat l with
    | none => rw [ha] at h; exact absurd h (by decide)
    | some y =>
      obtain ⟨h4, h5, h6⟩ := Ex.args_to _ _ _ ha
      simp only [ares]
      exact ⟨h5, by omega, by omega, y.2, by omega, h4⟩

/-- What 'groups' answers. -/
def GrRes (B : Nat) (w : World) (of : List UInt8) (inn : List Lx.Tok) (vx vl ve : Value) (tz : Int) : Option (List (List Lx.Tok) × List (List UInt8) × List Lx.Tok) → Prop
  | none => Er w ve (some (10, of))
  | some y => ve = .nilIface ∧ Oll w B 27 vx y.1 ∧ w.ownsRow B 9 1 vl y.2.1.length (xcs y.2.1) ∧ ∃ tq : Nat, tz = (tq : Int) ∧ tq ≤ inn.length ∧ y.2.2 = inn.drop tq

set_option maxRecDepth 20000 in
set_option maxHeartbeats 4000000 in
/-- 'groups'. -/
theorem groups_any {M : List (Nat × Obj)} {bw : Nat} {vf : Value} {fs : List Fl} {most : Nat} {st : Ex.St} (of : List UInt8) (n : Int) (k : Nat) (w : World) (h : Wk M w bw vf fs most st) (hin : st.inn.length ≤ 1000000) (hk : (k : Int) ≤ n) :
    Calls Tryz.prog 73 #[.pointer (some ⟨bw, 0, none⟩), .string (S of), .int .i64 n, .int .i64 (k : Int)] w fun e w' => ∃ vx vl ve tz, e = .returned (.tuple #[vx, vl, .int .i64 tz, ve]) ∧ Wk M w' bw vf fs most st ∧ Below w.heap.size w w' ∧ GrRes w.heap.size w' of st.inn vx vl ve tz (Ex.gr st.inn n k) := by
  have HK := Lib.hid h
  obtain ⟨vin, vm, vL, vR, vN, ps, h1, h2⟩ := h
  obtain ⟨ai, ci, hvi⟩ := h2.inn.shape
  subst hvi
  have HA := argsO_any (.slice ai st.inn.length ci) st.inn 0 n w h2.inn (by omega)
  have c1 := h1.cell (i := 1) rfl
  have HOK := Lib.hid (@argsAt_ok st.inn n)
  have HBAD := Lib.hid (@gr_bad st.inn n k)
  have HWORD := Lib.hid (fun g => @gr_word st.inn n k g)
  have HGOOD := Lib.hid (@gr_good st.inn n k)
  obtain ⟨X, hX⟩ : ∃ X, X = (argsAt st.inn 0 n).1 := ⟨_, rfl⟩
  obtain ⟨T, hT⟩ : ∃ T, T = (argsAt st.inn 0 n).2.1 := ⟨_, rfl⟩
  obtain ⟨E, hE⟩ : ∃ E, E = (argsAt st.inn 0 n).2.2 := ⟨_, rfl⟩
  rw [← hX, ← hT, ← hE] at HA
  rw [← hX, ← hT, ← hE] at HOK
  rw [← hE] at HBAD
  rw [← hX] at HWORD
  rw [← hX, ← hT, ← hE] at HGOOD
  obtain ⟨LI, hLI⟩ : ∃ LI, LI = st.inn.length := ⟨_, rfl⟩
  have HLI := Lib.hid hLI
  rw [← hLI] at HA c1
  have HAA := Lib.hid HA
  clear HA hX hT hE hLI h1 h2 hin
  by_cases he : E = 0
  · subst he
    obtain ⟨hxl, hn0, hn9, tq, hT, htq⟩ := HOK.out rfl
    subst hT
    have HTQ := Lib.hid htq
    have HXL := Lib.hid hxl
    have hkx : k ≤ X.length := by omega
    have hk9 : k ≤ 9 := by omega
    have HG2 := Lib.hid (HGOOD.out rfl)
    clear HBAD HOK htq hxl HGOOD
    go_enter Tryz.func73, Tryz.ntmps73
    go_upto_region 4 with (go_at_call 101; (with_reducible refine HAA.out.mono ?_); rintro e w1 ⟨v1, rfl, r1, b1⟩)
    obtain ⟨ax, cx, hvx⟩ := r1.shape
    subst hvx
    have hkc : (k : Int) ≤ (cx : Int) := by
      obtain ⟨vs, hrd, _⟩ := r1.rts
      have := hrd.cap
      omega
    have HR1 := Lib.hid r1
    have HB1 := Lib.hid b1
    have HK1 := Lib.hid (HK.out.below b1)
    have hkk0 : (0 : Int) ≤ (k : Int) := by omega
    clear r1 b1 HAA c1
    go_wp2_with fail
    go_loopg [15, 40] (k - 0) (fun q v15 v40 wr => ∃ (j : Nat) (u : Value), u = v15 ∧ v40 = .int .i64 j ∧ Hid (j ≤ k ∧ k - j = q) ∧ Hid (wr.ownsRow w1.heap.size 9 1 u j (xcs ((X.take j).map fun g => (wordOf g).1))) ∧ Hid ((X.take j).all (fun g => (wordOf g).2) = true) ∧ Hid (Below w1.heap.size w1 wr))
    case atStart => exact ⟨0, _, rfl, rfl, Lib.hid ⟨Nat.zero_le _, rfl⟩, Lib.hid (World.ownsRow_nil _ _ _ _), Lib.hid (by simp), Lib.hid (Below.refl _ _)⟩
    case round =>
      obtain ⟨j, u, rfl, rfl, HJ, HO, HALL, HBR⟩ := hrel
      by_cases hj : j < k
      · have hjj : (j : Int) < (k : Int) := by omega
        have hjx : j < X.length := by omega
        obtain ⟨b, o, x, rfl, c1, rx, _⟩ := (HR1.out.rts.below' HBR.out).at hjx
        obtain ⟨g, hg⟩ : ∃ g, g = X[j] := ⟨_, rfl⟩
        rw [← hg] at rx
        have HTK : Hid (X.take (j + 1) = X.take j ++ [g]) := Lib.hid (by rw [hg]; exact take_snoc X j hjx)
        have HGM : Hid (g ∈ X.take k) := Lib.hid (by rw [hg]; exact List.mem_take_iff_getElem.2 ⟨j, by rw [Nat.min_eq_left hkx]; exact hj, rfl⟩)
        have hwd := macWord_any x g wr rx
        obtain ⟨sx, hsx⟩ : ∃ sx, sx = (wordOf g).1 := ⟨_, rfl⟩
        obtain ⟨bx, hbx⟩ : ∃ bx, bx = (wordOf g).2 := ⟨_, rfl⟩
        rw [← hsx, ← hbx] at hwd
        have HSX := Lib.hid hsx
        have HBX := Lib.hid hbx
        have HWD := Lib.hid hwd
        clear hwd hsx hbx hg rx
        cases bx
        · have HNO := Lib.hid (HWORD.out _ HGM.out HBX.out.symm)
          go_wp2_with (go_at_call 102; (with_reducible refine HWD.out.mono ?_); rintro e w2 ⟨rfl, b2⟩)
          have hb3 : Below w2.heap.size w2 (w2.alloc (.cells #[.string (S of), .int .i64 10] 59)) := (Below.refl _ _).alloc (Nat.le_refl _) _
          have hb1 := (HBR.out.trans (b2.mono HBR.out.size))
          have hb9 := hb1.trans (hb3.mono hb1.size)
          (try simp only [Exit.inBlock, Exit.then])
          refine bodyPost_ret (results_tmp4 rfl _ _ _) rfl ⟨_, _, _, 0, rfl, HK1.out.below hb9, HB1.out.trans (hb9.mono HB1.out.size), ?_⟩
          rw [HNO.out]
          exact ⟨w2.heap.size, rfl, heap_alloc_new w2 _⟩
        · have hsz := HBR.out.size
          have hown := HO.out
          go_upto_region 11 with (first
            | (go_at_call 102; (with_reducible refine HWD.out.mono ?_); rintro e w2 ⟨rfl, b2⟩)
            | fail)
          have hown2 := own_below hown (own_under hown) b2
          have hs2 : w1.heap.size ≤ w2.heap.size := Nat.le_trans hsz b2.size
          have HB2 := Lib.hid b2
          clear hown b2
          go_wp2_with (first
            | (at_builtin; refine wp_app2 tyStrX rfl _ _ rfl w1.heap.size hown2 rfl rfl rfl rfl (by intro u hu; simp at hu; rw [hu]; rfl) (by omega) (by omega) hs2 ?_; intro v7 w7 o7 d7 g7 n7; have HO7 := Lib.hid o7; have HD7 := Lib.hid d7; clear o7 d7 g7 n7)
            | fail)
          go_roundg (k - (j + 1))
          case measure => have := HJ.out.2; omega
          case rel => exact ⟨j + 1, _, rfl, by simp, Lib.hid ⟨hj, rfl⟩, Lib.hid (by rw [HTK.out, List.map_append, List.map_singleton, xcs_snoc, ← HSX.out]; exact HO7.out), Lib.hid (by rw [HTK.out, List.all_append, HALL.out]; simp [← HBX.out]), Lib.hid ((HBR.out.trans (HB2.out.mono HBR.out.size)).trans HD7.out)⟩
      · obtain rfl : j = k := by have := HJ.out.1; omega
        have HYES := Lib.hid (HG2.out HALL.out)
        go_wp2_with fail
        (try simp only [Exit.inBlock, Exit.then])
        refine bodyPost_ret (results_tmp4 rfl _ _ _) rfl ⟨_, _, _, (tq : Int), rfl, HK1.out.below HBR.out, HB1.out.trans (HBR.out.mono HB1.out.size), ?_⟩
        rw [HYES.out]
        refine ⟨rfl, HR1.out.below' HBR.out, ?_, tq, rfl, HTQ.out, by simp⟩
        have hlen : ((X.take j).map fun g => (wordOf g).1).length = j := by rw [List.length_map, List.length_take]; omega
        have h9 := own_mono HO.out HB1.out.size
        simp only
        rw [hlen]
        exact h9
  · have hee : (E != 0) = true := by simpa using he
    have HNO := Lib.hid (HBAD.out he)
    clear HBAD HOK HWORD HGOOD
    go_enter Tryz.func73, Tryz.ntmps73
    go_wp2_with (go_at_call 101; (with_reducible refine HAA.out.mono ?_); rintro e w1 ⟨v1, rfl, r1, b1⟩)
    have hb3 : Below w1.heap.size w1 (w1.alloc (.cells #[.string (S of), .int .i64 10] 59)) := (Below.refl _ _).alloc (Nat.le_refl _) _
    have hb9 := b1.trans (hb3.mono b1.size)
    (try simp only [Exit.inBlock, Exit.then])
    refine bodyPost_ret (results_tmp4 rfl _ _ _) rfl ⟨_, _, _, 0, rfl, HK.out.below hb9, hb9, ?_⟩
    rw [HNO.out]
    exact ⟨w1.heap.size, rfl, heap_alloc_new w1 _⟩
theorem groups_at {M : List (Nat × Obj)} {bw : Nat} {vf : Value} {fs : List Fl} {most : Nat} {st : Ex.St} (of : List UInt8) (n kz : Int) (k : Nat) (w : World) (h : Wk M w bw vf fs most st) (hin : st.inn.length ≤ 1000000) (hk : (k : Int) ≤ n) (hz : kz = (k : Int)) :
    Calls Tryz.prog 73 #[.pointer (some ⟨bw, 0, none⟩), .string (S of), .int .i64 n, .int .i64 kz] w fun e w' => ∃ vx vl ve tz, e = .returned (.tuple #[vx, vl, .int .i64 tz, ve]) ∧ Wk M w' bw vf fs most st ∧ Below w.heap.size w w' ∧ GrRes w.heap.size w' of st.inn vx vl ve tz (Ex.gr st.inn n k) := by
  subst hz
  exact groups_any of n k w h hin hk
/-- What comes is what stands behind so many. -/
theorem Wk.rest {w : World} {M : List (Nat × Obj)} {bw : Nat} {vf : Value} {fs : List Fl} {most : Nat} {st : Ex.St} (h : Wk M w bw vf fs most st) (h0 : 0 < st.inn.length) {tq : Nat} (htq : tq ≤ st.inn.length) :
    ∃ b o ci, w.cell? ⟨bw, 1, none⟩ = some (.slice (some ⟨b, o, none⟩) st.inn.length ci) ∧ w.frozen? ⟨bw, 1, none⟩ = false ∧ st.inn.length ≤ ci ∧
      Wk M (w.setCell ⟨bw, 1, none⟩ (.slice (if ci = tq then some ⟨b, o, none⟩ else some ⟨b, o + tq * 2, none⟩) (st.inn.length - tq) (ci - tq))) bw vf fs most { st with inn := st.inn.drop tq } := by
  obtain ⟨vin, vm, vL, vR, vN, ps, h1, h2⟩ := h
  rcases h2.inn.2 with ⟨_, h9⟩ | ⟨b, o, ci, hv, hlt, hc, hcap⟩
  · omega
  · subst hv
    refine ⟨b, o, ci, h1.cell (i := 1) rfl, h1.free 1, hcap, ?_⟩
    by_cases hct : ci = tq
    · rw [if_pos hct]
      have hlen : st.inn.length - tq = 0 := by omega
      have hdr : st.inn.drop tq = [] := List.drop_eq_nil_of_le (by omega)
      rw [hdr, hlen]
      exact ⟨_, vm, vL, vR, vN, ps, h1.set 1 _, (h2.setIn (l := []) ⟨rfl, .inl ⟨.inr ⟨_, _, rfl⟩, rfl⟩⟩ fun h0' => absurd h0' (by simp)).set 1 _⟩
    · rw [if_neg hct]
      have hr := Rt.part h2.inn rfl htq (Nat.le_refl _) (ci - tq) (by omega)
      rw [List.take_length] at hr
      refine ⟨_, vm, vL, vR, vN, ps, h1.set 1 _, (h2.setIn (l := st.inn.drop tq) hr fun h0' b' hb' => ?_).set 1 _⟩
      have e : b = b' := by simpa [Value.ownBlock] using hb'
      subst e
      exact h2.ifar h0 b rfl
/-- The first word. -/
theorem words_first {w : World} {B : Nat} {v : Value} {ws : List (List UInt8)} (h : w.ownsRow B 9 1 v ws.length (xcs ws)) (h0 : 0 < ws.length) : ∃ b c, v = .slice (some ⟨b, 0, none⟩) ws.length c ∧ (∀ i, i < ws.length → w.cell? ⟨b, i, none⟩ = some (.string (S (ws.getD i [])))) ∧ b < w.heap.size ∧ ws.length ≤ c ∧ B ≤ b := by
  rcases h.2 with ⟨hv, h9⟩ | ⟨b, c, cur, hv, hB, hg, hn, hm, hs, ht⟩
  · omega
  · refine ⟨b, c, hv, fun i hi => ?_, row_lt hg, hn, hB⟩
    have h5 := h.cells (g := b) (by rw [hv]; rfl) i (.string (S ws[i])) (by simp [xcs, hi])
    rw [addr_add, Nat.zero_add] at h5
    rw [h5]
    simp [hi]
/-- One of the lists that a call owns. -/
theorem Oll.at9 {w : World} {B T : Nat} {a : Option Addr} {n c : Nat} {ls : List (List Lx.Tok)} (h : Oll w B T (.slice a n c) ls) {i : Nat} (hi : i < ls.length) :
    ∃ b u, a = some ⟨b, 0, none⟩ ∧ w.cell? ⟨b, i, none⟩ = some u ∧ Rt w u (ls.getD i []) ∧ b < w.heap.size ∧ B ≤ b ∧ ls.length ≤ c ∧ ∀ g, u.ownBlock = some g → B ≤ g := by
  obtain ⟨vs, h1, h2⟩ := h
  have hl : vs.length = ls.length := by
    have := (own_rd h1).1
    rw [this, Nat.mul_one]
  have hsh := h1
  rcases h1.2 with ⟨hv, h0⟩ | ⟨g, cap, cur, hv, hB, hg, hn, hm, hs, ht⟩
  · omega
  · cases hv
    have h5 := hsh.cells (g := g) rfl i (vs[i]'(by omega)) (List.getElem?_eq_getElem (by omega))
    rw [addr_add, Nat.zero_add] at h5
    obtain ⟨h6, h7⟩ := h2 i _ _ (List.getElem?_eq_getElem (by omega : i < vs.length)) (List.getElem?_eq_getElem hi)
    refine ⟨g, _, rfl, h5, ?_, row_lt hg, hB, hn, fun x hx => (h7 x hx).2.2⟩
    rw [List.getD_eq_getElem?_getD, List.getElem?_eq_getElem hi]
    exact h6
end Go.Proofs.YtjfikkjaifdkiaaGreatDoor

namespace Go.Proofs.YtjfikkjaifdkiaaGreatDoor
open Go.RowKit

theorem rts_two (w : World) {u1 u2 : Value} {l1 l2 : List Lx.Tok} (T : TypeId) (h1 : Rt w u1 l1) (h2 : Rt w u2 l2) : Rts (w.alloc (.cells #[u1, u2] T)) (.slice (some ⟨w.heap.size, 0, none⟩) 2 2) [l1, l2] := by
  have hb : Below w.heap.size w (w.alloc (.cells #[u1, u2] T)) := (Below.refl _ _).alloc (Nat.le_refl _) _
  refine ⟨[u1, u2], ⟨rfl, .inr ⟨w.heap.size, 0, 2, rfl, fun _ => by simp, fun j u hj => ?_, Nat.le_refl _⟩⟩, fun i u l hu hl => ?_⟩
  · rw [Nat.zero_add, row_cell (heap_alloc_new w _)]
    simpa using hj
  · match i, hu, hl with
    | 0, hu, hl =>
      injection hu with hu; injection hl with hl
      subst hu; subst hl
      exact h1.below' hb
    | 1, hu, hl =>
      injection hu with hu; injection hl with hl
      subst hu; subst hl
      exact h2.below' hb
    | _ + 2, hu, _ => simp at hu

set_option maxRecDepth 20000 in
set_option maxHeartbeats 2000000 in
/-- 'come': too many. -/
theorem come_none {M : List (Nat × Obj)} {bw : Nat} {vf vl : Value} {fs : List Fl} {most : Nat} {st : Ex.St} (name : List UInt8) (l : List Lx.Tok) (w : World) (h : Wk M w bw vf fs most st) (hl : Rt w vl l) (h0 : most < l.length + st.inn.length) (hb : l.length ≤ 100000000) (hb2 : st.inn.length ≤ 100000000) :
    Calls Tryz.prog 79 #[.pointer (some ⟨bw, 0, none⟩), .string (S name), vl] w fun e w' => ∃ v, e = .returned v ∧ Wk M w' bw vf fs most st ∧ Er w' v (some (3, name)) ∧ Below w.heap.size w w' := by
  obtain ⟨al, cl, rfl⟩ := hl.shape
  obtain ⟨n, hn⟩ : ∃ n, n = st.inn.length := ⟨_, rfl⟩
  obtain ⟨m, hm⟩ : ∃ m, m = l.length := ⟨_, rfl⟩
  have HK := Lib.hid h
  obtain ⟨vin, vm, vL, vR, vN, ps, h1, h2⟩ := h
  obtain ⟨ai, ci, hvi⟩ := h2.inn.shape
  subst hvi
  rw [← hn] at h1 h0 hb2
  rw [← hm] at h0 hb ⊢
  have c1 : ∀ m, (w.drewN m).cell? ⟨bw, 1, none⟩ = some (.slice ai n ci) := fun _ => h1.cell (i := 1) rfl
  have c4 : ∀ m, (w.drewN m).cell? ⟨bw, 4, none⟩ = some (.int .i64 (most : Int)) := fun _ => h1.cell (i := 4) rfl
  have l1 : (most : Int) < (m : Int) + (n : Int) := by omega
  clear h1 h2 hn hm hl h0
  go_enter Tryz.func79, Tryz.ntmps79
  go_upto_region 1 with fail
  go_quiet (fail)
  revert nq; intro m1
  obtain ⟨W2, hW2⟩ : ∃ W2, W2 = w.drewN m1 := ⟨_, rfl⟩
  have hb2 : Below w.heap.size w W2 := by rw [hW2]; exact below_drewN (Below.refl _ _) m1
  have hba : Below W2.heap.size W2 (W2.alloc (.cells #[.string (S name), .int .i64 3] 59)) := (Below.refl _ _).alloc (Nat.le_refl _) _
  have HK2 := Lib.hid ((HK.out.below hb2).below hba)
  have HB2 := Lib.hid (hb2.trans (hba.mono hb2.size))
  have HE : Hid (Er (W2.alloc (.cells #[.string (S name), .int .i64 3] 59)) (.iface 57 (.pointer (some ⟨W2.heap.size, 0, none⟩))) (some (3, name))) := Lib.hid ⟨W2.heap.size, rfl, heap_alloc_new W2 _⟩
  rw [← hW2]
  clear hW2 hb2 hba c4 c1
  go_wp2_with fail
  go_ret
  exact ⟨_, rfl, HK2.out, HE.out, HB2.out⟩

set_option maxRecDepth 20000 in
set_option maxHeartbeats 4000000 in
/-- 'come': they come. -/
theorem come_some {M : List (Nat × Obj)} {bw : Nat} {vf vl : Value} {fs : List Fl} {most : Nat} {st : Ex.St} (name : List UInt8) (l : List Lx.Tok) (w : World) (h : Wk M w bw vf fs most st) (hl : Rt w vl l) (h0 : ¬ most < l.length + st.inn.length) (hb : most ≤ 1000000) :
    Calls Tryz.prog 79 #[.pointer (some ⟨bw, 0, none⟩), .string (S name), vl] w fun e w' => e = .returned .nilIface ∧ Wk M w' bw vf fs most { st with inn := l ++ st.inn } ∧ Below bw w w' ∧ ∀ j, j < w.heap.size → j ≠ bw → w'.heap[j]? = w.heap[j]? := by
  obtain ⟨al, cl, rfl⟩ := hl.shape
  obtain ⟨n, hn⟩ : ∃ n, n = st.inn.length := ⟨_, rfl⟩
  obtain ⟨m, hm⟩ : ∃ m, m = l.length := ⟨_, rfl⟩
  have hlt := h.lt
  obtain ⟨vin, vm, vL, vR, vN, ps, h1, h2⟩ := h
  obtain ⟨ai, ci, hvi⟩ := h2.inn.shape
  subst hvi
  have HBX := Lib.hid h1
  have HWS := Lib.hid h2
  have HL := Lib.hid hl
  have HLT := Lib.hid hlt
  have HLL : Hid (l.length ≤ 1000000 ∧ st.inn.length ≤ 1000000) := Lib.hid (by omega)
  rw [← hn] at h1 h0 HBX HWS
  rw [← hm] at h0 HL ⊢
  have HN := Lib.hid hn
  have HM := Lib.hid hm
  have c1 : ∀ m, (w.drewN m).cell? ⟨bw, 1, none⟩ = some (.slice ai n ci) := fun _ => h1.cell (i := 1) rfl
  have c4 : ∀ m, (w.drewN m).cell? ⟨bw, 4, none⟩ = some (.int .i64 (most : Int)) := fun _ => h1.cell (i := 4) rfl
  have l1 : ¬ ((most : Int) < (m : Int) + (n : Int)) := by omega
  clear h1 h2 hn hm hl h0 hlt
  go_enter Tryz.func79, Tryz.ntmps79
  go_upto_region 1 with fail
  go_quiet (fail)
  revert nq; intro m1
  obtain ⟨W2, hW2⟩ : ∃ W2, W2 = w.drewN m1 := ⟨_, rfl⟩
  have hb2 : Below w.heap.size w W2 := by rw [hW2]; exact below_drewN (Below.refl _ _) m1
  have HBX := Lib.hid (HBX.out.kw (Kw.of_below hb2) (by have := HBX.out.lt; omega))
  have HWS := Lib.hid (HWS.out.below hb2)
  have HL := Lib.hid (HL.out.below' hb2)
  have hr := rts_two W2 (u1 := .slice al m cl) (u2 := .slice ai n ci) (l1 := l) (l2 := st.inn) 27 HL.out (by have := HWS.out.inn; rw [HN.out] at *; exact this)
  obtain ⟨LL, hLL⟩ : ∃ LL, LL = l ++ st.inn := ⟨_, rfl⟩
  have hC := (concat_any _ [l, st.inn] _ hr (by simp) (by intro q hq; simp at hq; rcases hq with rfl | rfl; exact HLL.out.1; exact HLL.out.2))
  rw [show [l, st.inn].flatten = LL by rw [hLL]; simp] at hC
  have HC := Lib.hid hC
  have HLE := Lib.hid hLL
  clear hC hLL
  have HBB : Hid (Below w.heap.size w (W2.alloc (.cells #[.slice al m cl, .slice ai n ci] 27))) := Lib.hid (hb2.alloc hb2.size _)
  have hba : Below W2.heap.size W2 (W2.alloc (.cells #[.slice al m cl, .slice ai n ci] 27)) := (Below.refl _ _).alloc (Nat.le_refl _) _
  have HBX := Lib.hid (HBX.out.kw (Kw.of_below hba) (by have := HBX.out.lt; omega))
  have HWS := Lib.hid (HWS.out.below hba)
  have d1 : W2.cell? ⟨bw, 1, none⟩ = some (.slice ai n ci) := by rw [hW2]; exact c1 m1
  rw [← hW2]
  clear hW2 hb2 hba c4 c1 hr
  go_wp2_with (first
    | (go_at_call 76
       (with_reducible refine HC.out.mono ?_)
       rintro e w5 ⟨v5, rfl, o5, b5⟩
       have HO5 := Lib.hid o5
       have HB5 := Lib.hid b5
       have hbx := HBX.out.kw (Kw.of_below b5) (by have := HBX.out.lt; omega)
       obtain ⟨a5, c5, hv5⟩ := own_shape o5
       subst hv5
       have k1 := hbx.cell (i := 1) rfl
       have kf := hbx.free 1
       clear o5 b5 hbx)
    | fail)
  go_ret
  have hbx := HBX.out.kw (Kw.of_below HB5.out) (by have := HBX.out.lt; omega)
  have hws := HWS.out.below HB5.out
  rw [← HLE.out]
  refine ⟨rfl, ⟨_, vm, vL, vR, vN, ps, hbx.set 1 _, (hws.setIn (l := LL) (own_rd HO5.out) (fun _ b hb => ?_)).set 1 _⟩, ?_, fun j hj hne => ?_⟩
  · have h9 := HO5.out.lt b hb
    exact ⟨h9.2, HWS.out.fresh HBX.out.lt h9.1 |> fun hx e => hx e⟩
  · have h9 := HBB.out.trans (HB5.out.mono HBB.out.size)
    exact (h9.mono (Nat.le_of_lt HLT.out)).trans ((Kw.set w5 bw 1 _).below (fun j e => by omega) (Nat.le_trans (Nat.le_of_lt HLT.out) h9.size))
  · have h9 := HBB.out.trans (HB5.out.mono HBB.out.size)
    exact ((Kw.set w5 bw 1 _).block j (Nat.lt_of_lt_of_le hj h9.size) hne).trans (h9.block j hj)
end Go.Proofs.YtjfikkjaifdkiaaGreatDoor

namespace Go.Proofs.YtjfikkjaifdkiaaGreatDoor
open Go.RowKit

theorem Oll.kw {w w' : World} {B T : Nat} {v : Value} {ls : List (List Lx.Tok)} {p : Nat → Prop} (h : Oll w B T v ls) (hk : Kw w w' p) (hp : ∀ j, p j → j < B) : Oll w' B T v ls := by
  obtain ⟨vs, h1, h2⟩ := h
  exact ⟨vs, hk.row h1 fun g hg e => by have := (h1.lt g hg).1; have := hp g e; omega, fun i u l hu hl => ⟨Rd.keep (h2 i u l hu hl).1 hk fun _ b hb e => by have := ((h2 i u l hu hl).2 b hb).2.2; have := hp b e; omega, fun b hb => ⟨Nat.lt_of_lt_of_le ((h2 i u l hu hl).2 b hb).1 hk.size, ((h2 i u l hu hl).2 b hb).2⟩⟩⟩
/-- A list of tokens does not lie in the expansion's box: no text lies there. -/
theorem rt_box {w : World} {bw : Nat} {v : Value} {l : List Lx.Tok} (h : Rt w v l) {vf vin vm vL vR vN : Value} {f m u : Int} (hb : Ro w bw 53 [vf, vin, vm, .int .i64 f, .int .i64 m, vL, vR, vN, .int .i64 u])
    (hs : ∀ s, vf ≠ .string s ∧ vin ≠ .string s ∧ vm ≠ .string s ∧ vL ≠ .string s ∧ vR ≠ .string s ∧ vN ≠ .string s) (h0 : 0 < l.length) : ∀ b, v.ownBlock = some b → b ≠ bw := by
  intro b hv e
  subst e
  rcases h.2 with ⟨_, h9⟩ | ⟨b', o, cap, rfl, hlt, hc, hcap⟩
  · omega
  · have e : b' = b := by simpa [Value.ownBlock] using hv
    subst e
    have h1 : (tcs l)[1]? = some (.string (S l[0].2)) := by
      match l, h0 with
      | t :: r, _ => rfl
    have h2 := hc 1 _ h1
    rw [row_cell hb] at h2
    obtain ⟨j, hj⟩ : ∃ j, j = o + 1 := ⟨_, rfl⟩
    rw [← hj] at h2
    have h3 := hs (S l[0].2)
    match j, h2 with
    | 0, h2 => simp at h2; exact h3.1 h2
    | 1, h2 => simp at h2; exact h3.2.1 h2
    | 2, h2 => simp at h2; exact h3.2.2.1 h2
    | 3, h2 => simp at h2
    | 4, h2 => simp at h2
    | 5, h2 => simp at h2; exact h3.2.2.2.1 h2
    | 6, h2 => simp at h2; exact h3.2.2.2.2.1 h2
    | 7, h2 => simp at h2; exact h3.2.2.2.2.2 h2
    | 8, h2 => simp at h2
    | _ + 9, h2 => simp at h2
theorem Rd.ne_str {w : World} {k n : Nat} {v : Value} {cs : List Value} (h : Rd w k v n cs) (s : ByteArray) : v ≠ .string s := by
  obtain ⟨a, c, rfl⟩ := h.shape
  intro e
  cases e
theorem own_ne_str {w : World} {B e k n : Nat} {v : Value} {xs : List Value} (h : w.ownsRow B e k v n xs) (s : ByteArray) : v ≠ .string s := by
  obtain ⟨a, c, rfl⟩ := own_shape h
  intro e
  cases e

set_option maxRecDepth 20000 in
set_option maxHeartbeats 8000000 in
/-- A call of a macro. -/
theorem call_any {M : List (Nat × Obj)} {bw B T : Nat} {vf : Value} {fs : List Fl} {most : Nat} {st : Ex.St} (m : Mac) (bv : Value) (w : World) (h : Wk M w bw vf fs most st) (hok : Ex.Ok most B T st) (hB : B ≤ 9000) (hmB : most ≤ B) (hfu : st.fuel + st.used ≤ 1000) (hbv : Rt w bv m.2.2) (hm0 : 0 ≤ m.2.1) (hml : m.2.2.length ≤ B) :
    Calls Tryz.prog 40 #[.pointer (some ⟨bw, 0, none⟩), .agg #[.string (S m.1), .int .i64 m.2.1, bv]] w fun e w' => ∃ v st1 o, e = .returned v ∧ Wk M w' bw vf fs most st1 ∧ Er w' v o ∧ Below bw w w' ∧ Ex.noteO st1 o = Ex.doCall most st m := by
  have hfar : 0 < m.2.2.length → ∀ b, bv.ownBlock = some b → b ≠ bw := fun h0 => by
    obtain ⟨vin, vm, vL, vR, vN, ps, h1, h2⟩ := h
    exact rt_box hbv h1 (fun s => ⟨h2.files.ne_str s, h2.inn.ne_str s, h2.macs.1.ne_str s, own_ne_str h2.outL s, own_ne_str h2.reads s, own_ne_str h2.notes s⟩) h0
  obtain ⟨nm, pm, bm⟩ := m
  have hfar : 0 < bm.length → ∀ b, bv.ownBlock = some b → b ≠ bw := hfar
  have hm0 : 0 ≤ pm := hm0
  have hml : bm.length ≤ B := hml
  have hbv : Rt w bv bm := hbv
  show Calls Tryz.prog 40 #[.pointer (some ⟨bw, 0, none⟩), .agg #[.string (S nm), .int .i64 pm, bv]] w _
  obtain ⟨ab, cb, hbs⟩ := hbv.shape
  subst hbs
  obtain ⟨W0, hW0⟩ : ∃ W0, W0 = w.alloc (.cells #[.string (S nm), .int .i64 pm, .slice ab bm.length cb] 96) := ⟨_, rfl⟩
  have hb0 : Below w.heap.size w W0 := by rw [hW0]; exact (Below.refl _ _).alloc (Nat.le_refl _) _
  have hg0 : Ro W0 w.heap.size 96 [.string (S nm), .int .i64 pm, .slice ab bm.length cb] := by rw [hW0]; exact heap_alloc_new w _
  have h0 := h.below hb0
  have HG := Lib.hid (groups_at nm pm 0 0 W0 h0 (by have := hok.inl; omega) (by simpa using hm0) rfl)
  have HLT := Lib.hid h.lt
  have HOK := Lib.hid hok
  have HFU := Lib.hid hfu
  have HG0 := Lib.hid hg0
  have HB0 := Lib.hid hb0
  have HBV := Lib.hid (hbv.below' hb0)
  have HFAR := Lib.hid hfar
  have x0 := hg0.cell (i := 0) rfl
  have x1 := hg0.cell (i := 1) rfl
  have x2 := hg0.cell (i := 2) rfl
  have HW0 := Lib.hid hW0
  have HSZ : Hid (W0.heap.size = w.heap.size + 1) := Lib.hid (by rw [hW0]; simp)
  clear h hok hfu h0 hg0 hb0 hbv hfar hW0
  cases hgr : Ex.gr st.inn pm 0 with
  | none =>
    have HD : Hid (Ex.doCall most st (nm, pm, bm) = Ex.note st 10 nm) := Lib.hid (by unfold Ex.doCall; simp only; rw [hgr])
    rw [hgr] at HG
    clear hgr
    go_enter Tryz.func40, Tryz.ntmps40
    go_upto_region 1 with fail
    rw [← HW0.out]
    go_wp2_with (go_at_call 73; (with_reducible refine HG.out.mono ?_); rintro e w1 ⟨vx, vl, ve, tz, rfl, k1, b1, r1⟩; obtain ⟨bf, hve, hrf⟩ := r1; subst hve)
    go_ret
    exact ⟨_, st, some (10, nm), rfl, k1, ⟨bf, rfl, hrf⟩, (HB0.out.trans (b1.mono HB0.out.size)).mono (Nat.le_of_lt HLT.out), HD.out.symm⟩
  | some y =>
    obtain ⟨x, ws, r⟩ := y
    obtain ⟨tq, hr, htq, hx, hin, hws, _, _, hw⟩ := Ex.gr_some hgr
    obtain ⟨st2, hst2⟩ : ∃ st2, st2 = { st with inn := r } := ⟨_, rfl⟩
    have HD : Hid (Ex.doCall most st (nm, pm, bm) = if st.fuel = 0 then Ex.note st2 9 nm else Ex.come most (Ex.burnt st2) nm (Mx.fill x bm)) := Lib.hid (by unfold Ex.doCall; simp only; rw [hgr, hst2])
    rw [hgr] at HG
    clear hgr
    go_enter Tryz.func40, Tryz.ntmps40
    go_upto_region 1 with fail
    rw [← HW0.out]
    go_upto_region 4 with (go_at_call 73; (with_reducible refine HG.out.mono ?_); rintro e w1 ⟨vx, vl, ve, tz, rfl, k1, b1, r1⟩; obtain ⟨hve, rx, rl, tq2, htz, htl, hr2⟩ := r1; subst hve)
    obtain ⟨ax, cx, hvx⟩ := rx.shape
    subst hvx
    have HRX := Lib.hid rx
    have HK1 := Lib.hid k1
    have HB1 := Lib.hid b1
    have HXB : Hid (∀ g ∈ x, g.length ≤ B) := Lib.hid fun g hg => by have := (hin g hg).1; have := HOK.out.inl; omega
    have HIN : Hid (r.length ≤ B) := Lib.hid (by rw [hr2, List.length_drop]; have := HOK.out.inl; omega)
    have HR2 := Lib.hid hr2
    have HST2 := Lib.hid hst2
    clear k1 b1 rx rl hin hws hw hx hr htq hr2 hst2 HG x0 x1 x2
    go_cut [9] (fun _ w' => Hid (Wk M w' bw vf fs most st2 ∧ Kw w1 w' fun j => j = bw))
    case first =>
      by_cases hi0 : 0 < st.inn.length
      · obtain ⟨b, o, ci, c1, f1, hci, hfin⟩ := HK1.out.rest hi0 htl
        obtain ⟨LI, hLI⟩ : ∃ LI, LI = st.inn.length := ⟨_, rfl⟩
        rw [← hLI] at c1 hci hfin htl
        rw [← HR2.out, ← HST2.out] at hfin
        have hl2 : (tq2 : Int) ≤ (LI : Int) := by omega
        have hc2 : (LI : Int) ≤ (ci : Int) := by omega
        clear hLI hi0
        by_cases hct : ci = tq2
        · obtain rfl : tq2 = ci := hct.symm
          obtain rfl : tq2 = LI := by omega
          rw [if_pos rfl, Nat.sub_self] at hfin
          have HFIN := Lib.hid hfin
          clear hfin hct
          go_wp2_with fail
          go_meet
          exact Lib.hid ⟨HFIN.out, Kw.set _ _ _ _⟩
        · rw [if_neg hct] at hfin
          have hct2 : ¬ (ci : Int) = (tq2 : Int) := by omega
          have HFIN := Lib.hid hfin
          clear hfin
          go_wp2_with fail
          go_meet
          exact Lib.hid ⟨HFIN.out, Kw.set _ _ _ _⟩
      · have h00 : st.inn = [] := List.eq_nil_of_length_eq_zero (by omega)
        have htq0 : tq2 = 0 := by rw [h00] at htl; simpa using htl
        subst htq0
        have hr0 : r = [] := by rw [HR2.out, h00]; rfl
        have hst : st2 = st := by rw [HST2.out, hr0, ← h00]
        have HST := Lib.hid hst
        have hk1 := HK1.out
        obtain ⟨vin, vm, vL, vR, vN, ps, h1, h2⟩ := hk1
        have c1 := h1.cell (i := 1) rfl
        have f1 := h1.free 1
        have HX := Lib.hid h1
        have HS := Lib.hid h2
        have hsh := h2.inn.2
        rw [h00] at hsh
        clear h1 h2 hr0 hst
        have hcl : ∀ v, Rt w1 v st.inn → Hid (Wk M (w1.setCell ⟨bw, 1, none⟩ v) bw vf fs most st2 ∧ Kw w1 (w1.setCell ⟨bw, 1, none⟩ v) fun j => j = bw) := fun v hv => Lib.hid ⟨by rw [HST.out]; exact ⟨v, vm, vL, vR, vN, ps, HX.out.set 1 _, (HS.out.setIn (l := st.inn) hv fun h9 => by rw [h00] at h9; simp at h9).set 1 _⟩, Kw.set _ _ _ _⟩
        have HCL := Lib.hid hcl
        have H00 := Lib.hid h00
        clear hcl h00 HX HS HST HR2 HST2
        rcases hsh with ⟨rfl | ⟨⟨pb, po, pp⟩, c, rfl⟩, _⟩ | ⟨b, o, cap, rfl, _, _, _⟩
        · go_wp2_with fail
          go_meet
          exact HCL.out _ (by rw [H00.out]; exact ⟨rfl, .inl ⟨.inl rfl, rfl⟩⟩)
        · by_cases hc0 : c = 0
          · subst hc0
            go_wp2_with fail
            go_meet
            exact HCL.out _ (by rw [H00.out]; exact ⟨rfl, .inl ⟨.inr ⟨_, _, rfl⟩, rfl⟩⟩)
          · have hc1 : ¬ (c : Int) = 0 := by omega
            go_wp2_with fail
            go_meet
            exact HCL.out _ (by rw [H00.out]; exact ⟨rfl, .inl ⟨.inr ⟨_, _, rfl⟩, rfl⟩⟩)
        · by_cases hc0 : cap = 0
          · subst hc0
            go_wp2_with fail
            go_meet
            exact HCL.out _ (by rw [H00.out]; exact ⟨rfl, .inl ⟨.inr ⟨_, _, rfl⟩, rfl⟩⟩)
          · have hc1 : ¬ (cap : Int) = 0 := by omega
            go_wp2_with fail
            go_meet
            exact HCL.out _ (by rw [H00.out]; exact ⟨rfl, .inl ⟨.inr ⟨_, _, rfl⟩, rfl⟩⟩)
    case rest =>
      have HK2 := hcut
      rename World => W2
      have HBW : Hid (bw < w.heap.size ∧ w.heap.size < w1.heap.size ∧ W0.heap.size ≤ w1.heap.size) := Lib.hid (by have h1 := HLT.out; have h2 := HB1.out.size; have h3 := HSZ.out; omega)
      have HB2 : Hid (Below bw w W2) := Lib.hid (((HB0.out.trans (HB1.out.mono HB0.out.size)).mono (Nat.le_of_lt HLT.out)).trans (HK2.out.2.below (fun j e => by omega) (by have := HBW.out; omega)))
      have hro1 : Ro w1 w.heap.size 96 [.string (S nm), .int .i64 pm, .slice ab bm.length cb] := HG0.out.kw (Kw.of_below HB1.out) (by have := HSZ.out; omega)
      have hro2 := hro1.kw HK2.out.2 (by have := HLT.out; omega)
      have y0 := hro2.cell (i := 0) rfl
      have HRO2 := Lib.hid hro2
      have HRX2 := Lib.hid (HRX.out.kw HK2.out.2 fun j e => by have := HBW.out; have := HSZ.out; omega)
      have HBV2 : Hid (Rt W2 (.slice ab bm.length cb) bm) := Lib.hid (Rd.keep (HBV.out.below' HB1.out) HK2.out.2 fun h0 b hb e => HFAR.out h0 b hb e)
      have HWK2 := Lib.hid HK2.out.1
      have hfu2 : st2.fuel + st2.used ≤ 1000 := by rw [HST2.out]; exact HFU.out
      have hin2 : st2.inn.length ≤ B := by rw [HST2.out]; exact HIN.out
      have hfe : st2.fuel = st.fuel := by rw [HST2.out]
      rw [← hfe] at HD
      have hcx : x.length ≤ cx := by
        obtain ⟨vs, hrd, _⟩ := HRX.out.rts
        exact hrd.cap
      clear hro1 hro2 hfe HK2 HST2 HR2 HIN HFU
      by_cases hf0 : st2.fuel = 0
      · have HD2 : Hid (Ex.doCall most st (nm, pm, bm) = Ex.note st2 9 nm) := Lib.hid (by rw [HD.out, if_pos hf0])
        have HBN := Lib.hid (burn_none nm W2 HWK2.out hf0)
        clear HD hf0
        go_wp2_with (go_at_call 78; (with_reducible refine HBN.out.mono ?_); rintro e w4 ⟨v, rfl, k4, r4, b4⟩; obtain ⟨bf, hve, hrf⟩ := r4; subst hve)
        (try simp only [Exit.inBlock, Exit.then])
        go_ret
        exact ⟨_, st2, some (9, nm), rfl, k4, ⟨bf, rfl, hrf⟩, HB2.out.trans (b4.mono (Nat.le_of_lt HWK2.out.lt)), HD2.out.symm⟩
      · have HD2 : Hid (Ex.doCall most st (nm, pm, bm) = Ex.come most (Ex.burnt st2) nm (Mx.fill x bm)) := Lib.hid (by rw [HD.out, if_neg hf0])
        have HBN := Lib.hid (burn9_some nm W2 HWK2.out.wkg hf0 (by omega) (by omega))
        clear HD hf0
        obtain ⟨st3, hst3⟩ : ∃ st3, st3 = Ex.burnt st2 := ⟨_, rfl⟩
        rw [← hst3] at HD2 HBN
        have hin3 : st3.inn.length ≤ B := by rw [hst3]; exact hin2
        clear hst3
        go_upto_region 8 with (go_at_call 78; (with_reducible refine HBN.out.mono ?_); rintro e w4 ⟨rfl, k4, kw4⟩)
        have hro4 := HRO2.out.kw kw4 (by have := HLT.out; omega)
        have p0 := hro4.cell (i := 0) rfl
        have p2 := hro4.cell (i := 2) rfl
        have HRX4 := (HRX2.out.kw kw4 fun j e => by have := HBW.out; have := HSZ.out; omega)
        have HBV4 : Rt w4 (.slice ab bm.length cb) bm := Rd.keep HBV2.out kw4 fun h0 b hb e => HFAR.out h0 b hb e
        have HFL := Lib.hid (fill_any (.slice ab bm.length cb) (.slice ax x.length cx) bm x w4.drew HBV4 HRX4.rts (by omega) (fun l hl => by have := HXB.out l hl; omega))
        have HLEN : Hid ((Mx.fill x bm).length ≤ 100000000) := Lib.hid (by
          have h1 := fill_le HXB.out bm
          have h2 : bm.length * (B + 1) ≤ 9000 * 9001 := Nat.mul_le_mul (by omega) (by omega)
          omega)
        have HB4 : Hid (Below bw w w4) := Lib.hid (HB2.out.trans (kw4.below (fun j e => by omega) (Nat.le_of_lt HWK2.out.lt)))
        have HK4 := Lib.hid k4.wk
        have HRO4 := Lib.hid hro4
        obtain ⟨FL, hFL⟩ : ∃ FL, FL = Mx.fill x bm := ⟨_, rfl⟩
        rw [← hFL] at HFL HLEN HD2
        clear k4 kw4 hro4 HRX4 HBV4 HBN y0 HRX2 HBV2 HRO2 hFL
        by_cases hcm : most < FL.length + st3.inn.length
        · have HD3 : Hid (Ex.doCall most st (nm, pm, bm) = Ex.note st3 3 nm) := Lib.hid (by rw [HD2.out]; unfold Ex.come; rw [if_pos hcm])
          have HCM := Lib.hid (fun (vl : Value) (W : World) (hk : Wk M W bw vf fs most st3) (hl : Rt W vl FL) => come_none nm FL W hk hl hcm HLEN.out (by omega))
          clear HD2 hcm
          go_region_held3 (fun w' => w'.cell? ⟨w.heap.size, 0, none⟩ = some (.string (S nm)) ∧ w'.cell? ⟨w.heap.size, 2, none⟩ = some (.slice ab bm.length cb))
            (first
              | exact ⟨p0, p2⟩
              | exact ⟨p60, p62⟩
              | exact ⟨p70, p72⟩
              | fail)
            (first
              | (go_at_call 82; (with_reducible refine HFL.out.mono ?_); rintro e w6 ⟨v6, rfl, o6, b6⟩; have HB6 : Hid (Below w4.heap.size w4 w6) := Lib.hid ⟨b6.1, b6.2, b6.3, b6.4, b6.5⟩; have hro6 := HRO4.out.kw (Kw.of_below HB6.out) (by have := HRO4.out.lt; omega); have p60 := hro6.cell (i := 0) rfl; have p62 := hro6.cell (i := 2) rfl; have HK6 := Lib.hid (HK4.out.below HB6.out); have HC6 := Lib.hid (HCM.out v6 w6 HK6.out (own_rd o6)); clear o6 b6)
              | (go_at_call 79; (with_reducible refine HC6.out.mono ?_); rintro e w7 ⟨v7, rfl, k7, r7, b7⟩; have hro7 := hro6.kw (Kw.of_below b7) (by have := hro6.lt; omega); have p70 := hro7.cell (i := 0) rfl; have p72 := hro7.cell (i := 2) rfl; obtain ⟨bf, hve, hrf⟩ := r7; subst hve)
              | fail)
          go_wp2_with fail
          (try simp only [Exit.inBlock, Exit.then])
          go_ret
          exact ⟨_, st3, some (3, nm), rfl, k7, ⟨bf, rfl, hrf⟩, HB4.out.trans ((HB6.out.trans (b7.mono HB6.out.size)).mono (Nat.le_of_lt HK4.out.lt)), HD3.out.symm⟩
        · have HD3 : Hid (Ex.doCall most st (nm, pm, bm) = { st3 with inn := FL ++ st3.inn }) := Lib.hid (by rw [HD2.out]; unfold Ex.come; rw [if_neg hcm])
          have HCM := Lib.hid (fun (vl : Value) (W : World) (hk : Wk M W bw vf fs most st3) (hl : Rt W vl FL) => come_some nm FL W hk hl hcm (by omega))
          clear HD2 hcm
          go_region_held3 (fun w' => w'.cell? ⟨w.heap.size, 0, none⟩ = some (.string (S nm)) ∧ w'.cell? ⟨w.heap.size, 2, none⟩ = some (.slice ab bm.length cb))
            (first
              | exact ⟨p0, p2⟩
              | exact ⟨p60, p62⟩
              | exact ⟨p70, p72⟩
              | fail)
            (first
              | (go_at_call 82; (with_reducible refine HFL.out.mono ?_); rintro e w6 ⟨v6, rfl, o6, b6⟩; have HB6 : Hid (Below w4.heap.size w4 w6) := Lib.hid ⟨b6.1, b6.2, b6.3, b6.4, b6.5⟩; have hro6 := HRO4.out.kw (Kw.of_below HB6.out) (by have := HRO4.out.lt; omega); have p60 := hro6.cell (i := 0) rfl; have p62 := hro6.cell (i := 2) rfl; have HK6 := Lib.hid (HK4.out.below HB6.out); have HC6 := Lib.hid (HCM.out v6 w6 HK6.out (own_rd o6)); clear o6 b6)
              | (go_at_call 79; (with_reducible refine HC6.out.mono ?_); rintro e w7 ⟨rfl, k7, b7, n7⟩; have hro7 : Ro w7 w.heap.size 96 _ := (n7 _ hro6.lt (by have := HLT.out; omega)).trans hro6; have p70 := hro7.cell (i := 0) rfl; have p72 := hro7.cell (i := 2) rfl)
              | fail)
          go_wp2_with fail
          (try simp only [Exit.inBlock, Exit.then])
          go_ret
          exact ⟨_, { st3 with inn := FL ++ st3.inn }, none, rfl, k7, rfl, HB4.out.trans ((HB6.out.mono (Nat.le_of_lt HK4.out.lt)).trans b7), HD3.out.symm⟩
end Go.Proofs.YtjfikkjaifdkiaaGreatDoor

namespace Go.Proofs.YtjfikkjaifdkiaaGreatDoor
open Go.RowKit

/-- What the tests of 'one' find, by what begins here. -/
theorem kind_tests {l : List UInt8} {j : Nat} (h : j < l.length) :
    (Lx.kind (l.drop j) = 2 ∧ (Lx.blank l[j] = true ∨ (Lx.blank l[j] = false ∧ (l[j] == 37) = true))) ∨
    (Lx.kind (l.drop j) = 5 ∧ Lx.blank l[j] = false ∧ (l[j] == 37) = false ∧ (l[j] == 123) = true) ∨
    (Lx.kind (l.drop j) = 6 ∧ Lx.blank l[j] = false ∧ (l[j] == 37) = false ∧ (l[j] == 123) = false ∧ (l[j] == 125) = true) ∨
    (Lx.kind (l.drop j) = 7 ∧ Lx.blank l[j] = false ∧ (l[j] == 37) = false ∧ (l[j] == 123) = false ∧ (l[j] == 125) = false ∧ Lx.param (l.drop j) = true) ∨
    (Lx.kind (l.drop j) = 4 ∧ Lx.blank l[j] = false ∧ (l[j] == 37) = false ∧ (l[j] == 123) = false ∧ (l[j] == 125) = false ∧ Lx.param (l.drop j) = false ∧ Lx.command (l.drop j) = true) ∨
    (Lx.kind (l.drop j) = 1 ∧ Lx.blank l[j] = false ∧ (l[j] == 37) = false ∧ (l[j] == 123) = false ∧ (l[j] == 125) = false ∧ Lx.param (l.drop j) = false ∧ Lx.command (l.drop j) = false) := by
  rw [drop_at h]
  rcases Lx.kind_cases l[j] (l.drop (j + 1)) with hk | hk | hk | hk | hk | hk
  · have := Lx.kind_two.1 hk
    refine .inl ⟨hk, ?_⟩
    cases hb : Lx.blank l[j]
    · right; simpa [hb] using this
    · left; rfl
  · have h4 := Lx.kind_four hk
    refine .inr (.inr (.inr (.inr (.inl ⟨hk, ?_⟩))))
    rw [h4.1]
    simp only [Lx.param, Lx.command, h4.2.2]
    exact ⟨rfl, rfl, rfl, rfl, rfl, rfl⟩
  · refine .inr (.inl ⟨hk, ?_⟩)
    have hk' := hk
    rw [Lx.kind_cons] at hk
    (repeat' split at hk) <;> simp_all
  · refine .inr (.inr (.inl ⟨hk, ?_⟩))
    rw [Lx.kind_cons] at hk
    (repeat' split at hk) <;> simp_all
  · have h7 := Lx.kind_seven hk
    refine .inr (.inr (.inr (.inl ⟨hk, ?_⟩)))
    rw [h7.1]
    simp only [Lx.param, h7.2.2]
    exact ⟨rfl, rfl, rfl, rfl, rfl⟩
  · refine .inr (.inr (.inr (.inr (.inr ⟨hk, ?_⟩))))
    have h1 : Lx.kind (l.drop j) = 1 := by rw [drop_at h]; exact hk
    have := (kind_word h).1 h1
    rw [drop_at h] at this
    simpa [and_assoc] using this


set_option maxHeartbeats 800000 in
/-- 'one': the token at a place, and the place behind it. -/
theorem lexOne_any (l : List UInt8) (k : Nat) (hlt : k < l.length) (hl : l.length ≤ 1000000000) (w : World) :
    Calls Tryz.prog 34 #[.string (S l), .int .i64 (k : Int)] w fun e w' =>
      ∃ e1 : Nat, e = .returned (.tuple #[.agg #[.int .i64 (Lx.one (l.drop k)).1.1, .string (S (Lx.one (l.drop k)).1.2)], .int .i64 e1]) ∧ e1 ≤ l.length ∧ l.drop e1 = (Lx.one (l.drop k)).2 ∧ Below w.heap.size w w' := by
  have hki : (k : Int) < (l.length : Int) := by omega
  have HC : Hid (l.drop k = l[k] :: l.drop (k + 1)) := drop_at hlt
  rcases kind_tests hlt with ⟨hk, ht⟩ | ⟨hk, t1, t2, t3⟩ | ⟨hk, t1, t2, t3, t4⟩ | ⟨hk, t1, t2, t3, t4, t5⟩ | ⟨hk, t1, t2, t3, t4, t5, t6⟩ | ⟨hk, t1, t2, t3, t4, t5, t6⟩
  · have HO := Lib.hid (Lx.one_k2 hk)
    clear hk
    by_cases hm : 2 ≤ (Lx.gap false 0 (l.drop k)).1
    all_goals (
      rcases ht with t1 | ⟨t1, t2⟩
      all_goals (
        go_enter Tryz.func34, Tryz.ntmps34
        go_wp2_with (first | (go_at_call 67; (with_reducible refine (blank_any _ _).mono ?_); rintro e w' ⟨rfl, rfl⟩) | (go_at_call 69; (with_reducible refine (param_any _ _ hlt (by omega) _).mono ?_); rintro e w' ⟨rfl, rfl⟩) | (go_at_call 70; (with_reducible refine (command_any _ _ hlt (by omega) _).mono ?_); rintro e w' ⟨rfl, rfl⟩) | (go_at_call 71; (with_reducible refine (letter_any _ _).mono ?_); rintro e w' ⟨rfl, rfl⟩) | (go_at_call 68; (with_reducible refine (blanks_any _ _ (by omega) (by omega) _).mono ?_); rintro e w1 ⟨e1, rfl, he1, hd1, rfl⟩; have HD := Lib.hid hd1; clear hd1))
        refine bodyPost_ret (v := .tuple #[.agg #[.int .i64 (Lx.gapKind (Lx.gap false 0 (l.drop k)).1), .string (S [])], .int .i64 e1]) (by simp [results, Tryz.results34, go_sem, Lx.gapKind, hm]) rfl ⟨e1, by rw [HO.out], he1, by rw [HO.out]; exact HD.out, ?_⟩
        exact (Below.refl _ _).alloc (Nat.le_refl _) _))
  · have HO : Hid (Lx.one (l.drop k) = ((5, []), l.drop (k + 1))) := by
      show _ = _
      rw [HC.out] at hk ⊢; exact Lx.one_k5 hk
    clear hk
    go_enter Tryz.func34, Tryz.ntmps34
    go_wp2_with (first | (go_at_call 67; (with_reducible refine (blank_any _ _).mono ?_); rintro e w' ⟨rfl, rfl⟩) | (go_at_call 69; (with_reducible refine (param_any _ _ hlt (by omega) _).mono ?_); rintro e w' ⟨rfl, rfl⟩) | (go_at_call 70; (with_reducible refine (command_any _ _ hlt (by omega) _).mono ?_); rintro e w' ⟨rfl, rfl⟩) | (go_at_call 71; (with_reducible refine (letter_any _ _).mono ?_); rintro e w' ⟨rfl, rfl⟩))
    refine bodyPost_ret (v := .tuple #[.agg #[.int .i64 5, .string (S [])], .int .i64 (k + 1 : Nat)]) (by simp [results, Tryz.results34, go_sem]) rfl ⟨k + 1, by rw [HO.out], by omega, by rw [HO.out], (Below.refl _ _).alloc (Nat.le_refl _) _⟩
  · have HO : Hid (Lx.one (l.drop k) = ((6, []), l.drop (k + 1))) := by
      show _ = _
      rw [HC.out] at hk ⊢; exact Lx.one_k6 hk
    clear hk
    go_enter Tryz.func34, Tryz.ntmps34
    go_wp2_with (first | (go_at_call 67; (with_reducible refine (blank_any _ _).mono ?_); rintro e w' ⟨rfl, rfl⟩) | (go_at_call 69; (with_reducible refine (param_any _ _ hlt (by omega) _).mono ?_); rintro e w' ⟨rfl, rfl⟩) | (go_at_call 70; (with_reducible refine (command_any _ _ hlt (by omega) _).mono ?_); rintro e w' ⟨rfl, rfl⟩) | (go_at_call 71; (with_reducible refine (letter_any _ _).mono ?_); rintro e w' ⟨rfl, rfl⟩))
    refine bodyPost_ret (v := .tuple #[.agg #[.int .i64 6, .string (S [])], .int .i64 (k + 1 : Nat)]) (by simp [results, Tryz.results34, go_sem]) rfl ⟨k + 1, by rw [HO.out], by omega, by rw [HO.out], (Below.refl _ _).alloc (Nat.le_refl _) _⟩
  · have hj2 : k + 1 < l.length := by
      have h7 := hk
      rw [HC.out] at h7
      have := (Lx.kind_seven h7).2.1
      rcases Nat.lt_or_ge (k + 1) l.length with h | h
      · exact h
      · exact absurd (List.drop_eq_nil_of_le h) this
    have HO : Hid (Lx.one (l.drop k) = ((7, [l[k + 1]]), l.drop (k + 1 + 1))) := by
      show _ = _
      rw [HC.out] at hk ⊢; rw [Lx.one_k7 hk, drop_at hj2]; first | done | rfl
    clear hk
    go_enter Tryz.func34, Tryz.ntmps34
    go_wp2_with (first | (go_at_call 67; (with_reducible refine (blank_any _ _).mono ?_); rintro e w' ⟨rfl, rfl⟩) | (go_at_call 69; (with_reducible refine (param_any _ _ hlt (by omega) _).mono ?_); rintro e w' ⟨rfl, rfl⟩) | (go_at_call 70; (with_reducible refine (command_any _ _ hlt (by omega) _).mono ?_); rintro e w' ⟨rfl, rfl⟩) | (go_at_call 71; (with_reducible refine (letter_any _ _).mono ?_); rintro e w' ⟨rfl, rfl⟩))
    refine bodyPost_ret (v := .tuple #[.agg #[.int .i64 7, .string (S [l[k + 1]])], .int .i64 (k + 1 + 1 : Nat)]) (by simp [results, Tryz.results34, go_sem]; omega) rfl ⟨k + 1 + 1, by rw [HO.out], by omega, by rw [HO.out], (Below.refl _ _).alloc (Nat.le_refl _) _⟩
  · have HO : Hid (Lx.one (l.drop k) = ((4, (l.drop (k + 1)).takeWhile Lx.letter), (l.drop (k + 1)).dropWhile Lx.letter)) := by
      show _ = _
      rw [HC.out] at hk ⊢; exact Lx.one_k4 hk
    clear hk
    go_enter Tryz.func34, Tryz.ntmps34
    go_wp2_with (first | (go_at_call 67; (with_reducible refine (blank_any _ _).mono ?_); rintro e w' ⟨rfl, rfl⟩) | (go_at_call 69; (with_reducible refine (param_any _ _ hlt (by omega) _).mono ?_); rintro e w' ⟨rfl, rfl⟩) | (go_at_call 70; (with_reducible refine (command_any _ _ hlt (by omega) _).mono ?_); rintro e w' ⟨rfl, rfl⟩) | (go_at_call 71; (with_reducible refine (letter_any _ _).mono ?_); rintro e w' ⟨rfl, rfl⟩))
    go_loop [9] (fun i => ∃ m : Nat, k + 1 ≤ m ∧ m ≤ l.length ∧ i = .int .i64 m ∧ Hid ((l.drop (k + 1)).takeWhile Lx.letter = (l.take m).drop (k + 1) ++ (l.drop m).takeWhile Lx.letter ∧ (l.drop (k + 1)).dropWhile Lx.letter = (l.drop m).dropWhile Lx.letter)) (fun i => l.length - (intOf i).toNat)
    case atStart => exact ⟨k + 1, by omega, by omega, by go_num, ⟨by rw [take_drop_self]; rfl, rfl⟩⟩
    case round =>
      obtain ⟨m, hjm, hm, rfl, HM⟩ := hrel
      by_cases hml : m < l.length
      · have hmi : (m : Int) < (l.length : Int) := by omega
        by_cases hlet : Lx.letter l[m] = true
        · go_wp2_with (first | (go_at_call 67; (with_reducible refine (blank_any _ _).mono ?_); rintro e w' ⟨rfl, rfl⟩) | (go_at_call 69; (with_reducible refine (param_any _ _ hlt (by omega) _).mono ?_); rintro e w' ⟨rfl, rfl⟩) | (go_at_call 70; (with_reducible refine (command_any _ _ hlt (by omega) _).mono ?_); rintro e w' ⟨rfl, rfl⟩) | (go_at_call 71; (with_reducible refine (letter_any _ _).mono ?_); rintro e w' ⟨rfl, rfl⟩))
          go_round
          case rel =>
            refine ⟨m + 1, by omega, by omega, by go_num, ?_⟩
            have h := HM.out
            rw [drop_at hml, List.takeWhile_cons_of_pos hlet, List.dropWhile_cons_of_pos hlet] at h
            exact ⟨by rw [h.1, take_drop_snoc hml hjm]; simp, h.2⟩
          case measure => simp [intOf]; omega
        · have hlet' : Lx.letter l[m] = false := by simpa using hlet
          have HX : Hid ((l.drop (k + 1)).takeWhile Lx.letter = (l.take m).drop (k + 1) ∧ (l.drop (k + 1)).dropWhile Lx.letter = l.drop m) := by
            have h := HM.out
            rw [drop_at hml, List.takeWhile_cons_of_neg hlet, List.dropWhile_cons_of_neg hlet] at h
            exact ⟨by rw [h.1]; simp, by rw [h.2, drop_at hml]⟩
          clear hlet
          go_wp2_with (first | (go_at_call 67; (with_reducible refine (blank_any _ _).mono ?_); rintro e w' ⟨rfl, rfl⟩) | (go_at_call 69; (with_reducible refine (param_any _ _ hlt (by omega) _).mono ?_); rintro e w' ⟨rfl, rfl⟩) | (go_at_call 70; (with_reducible refine (command_any _ _ hlt (by omega) _).mono ?_); rintro e w' ⟨rfl, rfl⟩) | (go_at_call 71; (with_reducible refine (letter_any _ _).mono ?_); rintro e w' ⟨rfl, rfl⟩))
          refine bodyPost_ret (v := .tuple #[.agg #[.int .i64 4, .string (S ((l.take m).drop (k + 1)))], .int .i64 m]) (by simp [results, Tryz.results34, go_sem]) rfl ⟨m, by rw [HO.out, HX.out.1], hm, by rw [HO.out]; exact HX.out.2.symm, (Below.refl _ _).alloc (Nat.le_refl _) _⟩
      · obtain rfl : m = l.length := by omega
        have HX : Hid ((l.drop (k + 1)).takeWhile Lx.letter = l.drop (k + 1) ∧ (l.drop (k + 1)).dropWhile Lx.letter = []) := by
          have h := HM.out
          rw [List.drop_length, List.take_length] at h
          exact ⟨by rw [h.1]; simp, h.2⟩
        go_wp2_with fail
        refine bodyPost_ret (v := .tuple #[.agg #[.int .i64 4, .string (S (l.drop (k + 1)))], .int .i64 l.length]) (by simp [results, Tryz.results34, go_sem]) rfl ⟨l.length, by rw [HO.out, HX.out.1], hm, by rw [HO.out, HX.out.2, List.drop_length], (Below.refl _ _).alloc (Nat.le_refl _) _⟩
  · have HO := Lib.hid (Lx.one_k1 hk)
    clear hk
    go_enter Tryz.func34, Tryz.ntmps34
    go_wp2_with (first | (go_at_call 67; (with_reducible refine (blank_any _ _).mono ?_); rintro e w' ⟨rfl, rfl⟩) | (go_at_call 69; (with_reducible refine (param_any _ _ hlt (by omega) _).mono ?_); rintro e w' ⟨rfl, rfl⟩) | (go_at_call 70; (with_reducible refine (command_any _ _ hlt (by omega) _).mono ?_); rintro e w' ⟨rfl, rfl⟩) | (go_at_call 71; (with_reducible refine (letter_any _ _).mono ?_); rintro e w' ⟨rfl, rfl⟩) | (go_at_call 72; (with_reducible refine (word_any _ _ hlt hl _).mono ?_); rintro e w1 ⟨e1, rfl, he1, hd1, hb1⟩; have HD := Lib.hid hd1; obtain ⟨hp, hb2⟩ := below_pair hb1; have q0 := pair_cell0 hp; have q1 := pair_cell1 hp; have f0 := pair_free hp 0; have f1 := pair_free hp 1; have HP := Lib.hid (pair_set hp (.int .i64 1) (.string (S (Lx.word (l.drop k)).1))); clear hd1 hb1 hp))
    have r0 := pair_cell0 HP.out
    have r1 := pair_cell1 HP.out
    refine bodyPost_ret (v := .tuple #[.agg #[.int .i64 1, .string (S (Lx.word (l.drop k)).1)], .int .i64 e1]) (by simp [results, Tryz.results34, go_sem, r0, r1]) rfl ⟨e1, by rw [HO.out], he1, by rw [HO.out]; exact HD.out, below_setCell2 hb2 (Nat.le_refl _) _ _ _ _⟩

set_option maxHeartbeats 400000 in
/-- 'Lex': the tokens of a text. -/
theorem lex_any (l : List UInt8) (hl : l.length ≤ 1000000000) (w : World) :
    Calls Tryz.prog 16 #[.string (S l)] w fun e w' =>
      ∃ v', e = .returned v' ∧ w'.ownsRow w.heap.size 64 2 v' (Lx.lex l).length (tcs (Lx.lex l)) ∧ Below w.heap.size w w' := by
  go_enter Tryz.func16, Tryz.ntmps16
  go_wp2_with fail
  go_loopw [3, 4] (fun v i wr => ∃ (j : Nat) (acc : List Lx.Tok), j ≤ l.length ∧ acc.length ≤ j ∧ i = .int .i64 j ∧ wr.ownsRow w.heap.size 64 2 v acc.length (tcs acc) ∧ Hid (acc ++ Lx.lex (l.drop j) = Lx.lex l) ∧ Below w.heap.size w wr) (fun _ i _ => l.length - (intOf i).toNat)
  case atStart => exact ⟨0, [], by omega, by simp, rfl, World.ownsRow_nil _ _ _ _, rfl, Below.refl _ _⟩
  case round =>
    obtain ⟨j, acc, hj, hacc, rfl, hown, HG, hbw⟩ := hrel
    have hsz := hbw.size
    by_cases hlt : j < l.length
    · have hlen1 : (Lx.one (l.drop j)).2.length ≤ (l.drop (j + 1)).length := by have := Lx.one_lt l[j] (l.drop (j + 1)); rwa [← drop_at hlt] at this
      have HLEX := Lib.hid (show Lx.lex (l.drop j) = (Lx.one (l.drop j)).1 :: Lx.lex (Lx.one (l.drop j)).2 from Lx.lex_ne (by rw [drop_at hlt]; exact List.cons_ne_nil _ _))
      have HLEN := Lib.hid hlen1
      clear hlen1
      go_wp2_with (first
        | (go_at_call 34; (with_reducible refine (lexOne_any _ _ hlt hl _).mono ?_); rintro e w1 ⟨e1, rfl, he1, hd1, hb1⟩; have HD := Lib.hid hd1; have hown1 := own_below hown (own_under hown) hb1; have hsz1 := hb1.size; clear hd1)
        | (at_builtin; refine wp_app tyTok rfl _ _ rfl w.heap.size (hown1.alloc _) rfl rfl (by simp) rfl tc_one (by omega) (by omega) (by simp; omega) ?_; intro v2 w2 hown2 hb2 _))
      have hj1 : j < e1 := by
        have h1 := HLEN.out; rw [← HD.out] at h1; simp at h1; omega
      go_roundw
      case rel => exact ⟨e1, acc ++ [(Lx.one (l.drop j)).1], he1, by simp; omega, rfl, by rw [tcs_snoc, List.length_append]; exact hown2, by show _ = _; rw [← HG.out, HLEX.out, HD.out]; simp, ((hbw.trans (hb1.mono hsz)).alloc (by omega) _).trans hb2⟩
      case measure => simp [intOf]; omega
    · obtain rfl : j = l.length := by omega
      have hx : acc = Lx.lex l := by rw [← HG.out, List.drop_length, Lx.lex_nil, List.append_nil]
      subst hx
      go_wp2_with fail
      go_ret
      exact ⟨_, rfl, hown, hbw⟩

end Go.Proofs.YtjfikkjaifdkiaaGreatDoor

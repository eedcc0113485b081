/- The evaluator's operations that make no memory answer as the machine's. -/
import Derived.Test.YtigcolhieieakaaDoorPvC
import Derived.IntWalk
namespace Go.Pv
open Go Go.RowKit
set_option linter.unusedVariables false
set_option linter.unusedSimpArgs false

structure TabOk (P : Program) (T : Tab) : Prop where
  und : ∀ t d, T.und t = some d → ∃ td, P.underlying t = some td ∧ TD.of td = d
  inf : ∀ t i, T.inf t = some i → ∃ ti, P.info? t = some ti ∧ TI.of ti = some i
  zlen : ∀ t i, T.inf t = some i → i.zero.length = i.size

def Yields (P : Program) (w : World) (G : Gh) (s : Sem Value) (x : AV) : Prop := ∃ v, s.run P w = .ok v w ∧ rep G x v

section
variable {P : Program} {T : Tab} {w : World} {G : Gh}

theorem Yields.pure {v : Value} {x : AV} (r : rep G x v) : Yields P w G (pure v) x := ⟨v, rfl, r⟩

theorem TD.slice_inv {td : TypeDesc} {e : TypeId} (h : TD.of td = .slice e) : td = .slice e := by cases td <;> simp [TD.of] at h; rw [h]
theorem TD.int_inv {td : TypeDesc} {k : IntKind} (h : TD.of td = .int k) : td = .int k := by cases td <;> simp [TD.of] at h; rw [h]
theorem TD.bool_inv {td : TypeDesc} (h : TD.of td = .bool) : td = .bool := by cases td <;> simp [TD.of] at h; rfl
theorem TD.string_inv {td : TypeDesc} (h : TD.of td = .string) : td = .string := by cases td <;> simp [TD.of] at h; rfl
theorem TD.array_inv {td : TypeDesc} {n : Nat} {e : TypeId} (h : TD.of td = .array n e) : td = .array n e := by cases td <;> simp [TD.of] at h; rw [h.1, h.2]
theorem TD.pointer_inv {td : TypeDesc} {e : TypeId} (h : TD.of td = .pointer e) : td = .pointer e := by cases td <;> simp [TD.of] at h; rw [h]
theorem TD.interface_inv {td : TypeDesc} (h : TD.of td = .interface) : ∃ m, td = .interface m := by cases td <;> simp [TD.of] at h; exact ⟨_, rfl⟩
theorem TD.struct_inv {td : TypeDesc} {fs : List (Nat × TypeId)} (h : TD.of td = .struct fs) : ∃ l, td = .struct l ∧ l.toList.map (fun f => (f.offset, f.type)) = fs := by cases td <;> simp [TD.of] at h; exact ⟨_, rfl, by simpa using h⟩

theorem run_und (ok : TabOk P T) {t : TypeId} {d : TD} (h : T.und t = some d) : ∃ td, TD.of td = d ∧ P.underlying t = some td ∧ ∀ w, (underlying t).run P w = .ok td w := by
  obtain ⟨td, h1, h2⟩ := ok.und _ _ h
  exact ⟨td, h2, h1, fun w => by simp [underlying, h1]⟩

theorem run_inf (ok : TabOk P T) {t : TypeId} {i : TI} (h : T.inf t = some i) : ∃ ti, P.info? t = some ti ∧ ti.size = i.size ∧ ti.bytes = i.bytes ∧ (∀ w, (typeInfo t).run P w = .ok ti w) ∧ (∀ w, (sizeOf t).run P w = .ok i.size w) ∧
    ∃ z, ti.zero = some z ∧ (∀ w, (zeroValue t).run P w = .ok z w) ∧ ∀ G, repL G i.zero z.cells.toList := by
  obtain ⟨ti, h1, h2⟩ := ok.inf _ _ h
  unfold TI.of at h2
  split at h2
  · rename_i z hz
    split at h2
    · rename_i l hl
      simp only [Option.some.injEq] at h2
      subst h2
      exact ⟨ti, h1, rfl, rfl, fun w => by simp [typeInfo, h1], fun w => by simp [sizeOf, typeInfo, h1], z, hz, fun w => by simp [zeroValue, typeInfo, h1, hz], fun G => leafs_rep hl⟩
    · simp at h2
  · simp at h2

theorem run_isAgg' (ok : TabOk P T) {t : TypeId} {b : Bool} (h : T.isAgg t = some b) : ∀ w, (isAgg t).run P w = .ok b w := by
  intro w
  unfold Tab.isAgg at h
  split at h
  · rename_i fs hu
    obtain ⟨td, h1, _, h2⟩ := run_und ok hu
    obtain ⟨l, rfl, _⟩ := TD.struct_inv h1
    simp only [Option.some.injEq] at h; subst h
    simp [isAgg, h2]
  · rename_i n e hu
    obtain ⟨td, h1, _, h2⟩ := run_und ok hu
    have := TD.array_inv h1; subst this
    simp only [Option.some.injEq] at h; subst h
    simp [isAgg, h2]
  · rename_i d n1 n2 hu
    obtain ⟨td, h1, _, h2⟩ := run_und ok hu
    simp only [Option.some.injEq] at h; subst h
    cases td <;> simp [isAgg, h2]
    · exact n2 _ _ h1.symm
    · exact n1 _ h1.symm
  · simp at h

theorem wrap_in (k : IntKind) (n : Int) (h : k.min ≤ n) (h' : n ≤ k.max) : k.wrap n = n := by
  cases k <;> simp [IntKind.wrap, IntKind.min, IntKind.max, IntKind.signed, IntKind.bits] at * <;> omega

theorem fw_eq (k : IntKind) (n : Int) : fw k n = k.wrap n := by
  unfold fw
  split <;> first
    | (split
       · rename_i h; rw [wrap_in] <;> simp [IntKind.min, IntKind.max, IntKind.signed, IntKind.bits] <;> omega
       · rfl)
    | rfl

theorem intV_sound {op : BinOp} {k : IntKind} {x y : Int} {t : TypeId} {r : AV} (h : intV op k x y = some r) : Yields P w G (binOp op t (.int k x) (.int k y)) r := by
  cases op <;> simp only [intV, Option.some.injEq, reduceCtorEq] at h
  case add => subst h; exact ⟨.int k (k.wrap (x + y)), by simp [binOp, Op.intArith], by simp [rep, fw_eq]⟩
  case sub => subst h; exact ⟨.int k (k.wrap (x - y)), by simp [binOp, Op.intArith], by simp [rep, fw_eq]⟩
  case mul => subst h; exact ⟨.int k (k.wrap (x * y)), by simp [binOp, Op.intArith], by simp [rep, fw_eq]⟩
  case quo =>
    split at h
    · simp at h
    · rename_i hy; simp only [Option.some.injEq] at h; subst h; exact ⟨.int k (k.wrap (x.tdiv y)), by simp [binOp, Op.intDiv, hy], by simp [rep, fw_eq]⟩
  case rem =>
    split at h
    · simp at h
    · rename_i hy; simp only [Option.some.injEq] at h; subst h; exact ⟨.int k (x.tmod y), by simp [binOp, Op.intDiv, hy], by simp [rep]⟩
  case and => subst h; exact ⟨.int k (k.wrap (BitVec.ofInt k.bits x &&& BitVec.ofInt k.bits y).toNat), by simp [binOp, Op.intBits], rfl⟩
  case or => subst h; exact ⟨.int k (k.wrap (BitVec.ofInt k.bits x ||| BitVec.ofInt k.bits y).toNat), by simp [binOp, Op.intBits], rfl⟩
  case xor => subst h; exact ⟨.int k (k.wrap (BitVec.ofInt k.bits x ^^^ BitVec.ofInt k.bits y).toNat), by simp [binOp, Op.intBits], rfl⟩
  case andNot => subst h; exact ⟨.int k (k.wrap (BitVec.ofInt k.bits x &&& ~~~(BitVec.ofInt k.bits y)).toNat), by simp [binOp, Op.intBits], rfl⟩
  case eql => subst h; exact ⟨.bool (x == y), by simp [binOp, Op.intCmp], rfl⟩
  case neq => subst h; exact ⟨.bool (x != y), by simp [binOp, Op.intCmp], rfl⟩
  case lss => subst h; exact ⟨.bool (decide (x < y)), by simp [binOp, Op.intCmp], rfl⟩
  case leq => subst h; exact ⟨.bool (decide (x ≤ y)), by simp [binOp, Op.intCmp], rfl⟩
  case gtr => subst h; exact ⟨.bool (decide (x > y)), by simp [binOp, Op.intCmp], rfl⟩
  case geq => subst h; exact ⟨.bool (decide (x ≥ y)), by simp [binOp, Op.intCmp], rfl⟩

theorem shiftV_sound {op : BinOp} {k k' : IntKind} {x y : Int} {t : TypeId} {r : AV} (h : shiftV op k x y = some r) : Yields P w G (binOp op t (.int k x) (.int k' y)) r := by
  unfold shiftV at h
  split at h
  · simp at h
  · rename_i hy
    cases op <;> simp only [Option.some.injEq, reduceCtorEq] at h <;> subst h
    · exact ⟨.int k (k.wrap (x * 2 ^ (min y.toNat k.bits))), by simp [binOp, Op.shift, hy], by simp [rep, fw_eq, Int.natCast_pow]⟩
    · exact ⟨.int k (x.fdiv (2 ^ (min y.toNat k.bits))), by simp [binOp, Op.shift, hy], by simp [rep, Int.natCast_pow]⟩

theorem eqV_cases {op : BinOp} {b : Bool} {r : AV} (h : eqV op b = some r) : (op = .eql ∧ r = .b b) ∨ (op = .neq ∧ r = .b (!b)) := by
  cases op <;> simp [eqV] at h <;> simp [h]

/-- An equality that is asked of the type. -/
theorem eq_sound {op : BinOp} {t : TypeId} {x y : Value} {ox oy : Operand} {b : Bool} {r : AV} (h : eqV op b = some r)
    (hg : (eqGuard op t ox oy x y).run P w = .ok () w) (he : (Op.equal t x y).run P w = .ok b w)
    (hb : ∀ o, o = BinOp.eql ∨ o = BinOp.neq → binOp o t x y = (match o with | .eql => (do pure (.bool (← Op.equal t x y))) | _ => (do pure (.bool (!(← Op.equal t x y)))))) :
    Yields P w G (do eqGuard op t ox oy x y; binOp op t x y) r := by
  rcases eqV_cases h with ⟨rfl, rfl⟩ | ⟨rfl, rfl⟩
  · exact ⟨_, by rw [Sem.run_bind, hg, hb _ (.inl rfl)]; simp [he], rfl⟩
  · exact ⟨_, by rw [Sem.run_bind, hg, hb _ (.inr rfl)]; simp [he], rfl⟩

theorem guard_none {op : BinOp} {t : TypeId} {x y : Value} {ox oy : Operand} (h : ∀ cs cs', ¬ (x = .agg cs ∧ y = .agg cs')) (h' : (x = .nilIface ∧ y = .nilIface) → (isConst ox || isConst oy) = true) : (eqGuard op t ox oy x y).run P w = .ok () w := by
  by_cases hn : x = .nilIface ∧ y = .nilIface
  · have hc := h' hn
    obtain ⟨rfl, rfl⟩ := hn
    cases op <;> first
      | rfl
      | (cases ox <;> cases oy <;> first | rfl | (simp [isConst] at hc))
  · have key : ∀ (c : Prop) [Decidable c] (s : Sem Unit), s.run P w = .ok () w → (if c then Pure.pure () else s).run P w = .ok () w := fun c _ s hs => by
      split
      · rfl
      · exact hs
    unfold eqGuard
    refine key _ _ ?_
    cases x <;> try rfl
    · cases y <;> first | rfl | exact absurd ⟨rfl, rfl⟩ hn
    · cases y <;> first | rfl | exact absurd ⟨rfl, rfl⟩ (h _ _)

theorem ba_append (a b : List UInt8) : (⟨a.toArray⟩ : ByteArray) ++ ⟨b.toArray⟩ = ⟨(a ++ b).toArray⟩ := by
  apply ByteArray.ext
  simp

theorem equal_run {t : TypeId} {x y : Value} {td : TypeDesc} {b : Bool} (h2 : (underlying t).run P w = .ok td w)
    (h : (match td, x, y with
      | .bool, .bool a, .bool b => some (a == b)
      | .interface _, .nilIface, .nilIface => some true
      | .interface _, .nilIface, .iface _ _ => some false
      | .interface _, .iface _ _, .nilIface => some false
      | .slice _, .slice none _ _, .slice b _ _ => some b.isNone
      | .slice _, .slice (some _) _ _, .slice none _ _ => some false
      | _, _, _ => none) = some b) : (Op.equal t x y).run P w = .ok b w := by
  show (Op.equalIn (9999 + 1) t x y).run P w = _
  rw [Op.equalIn, Sem.run_bind, h2, Result.andThen_ok]
  split at h <;> simp only [Option.some.injEq, reduceCtorEq] at h <;> subst h <;> rfl

theorem binV_sound (ok : TabOk P T) {op : BinOp} {t : TypeId} {ox oy : Operand} {x y r : AV} {vx vy : Value} (h : binV T op t (isConst ox || isConst oy) x y = some r) (rx : rep G x vx) (ry : rep G y vy) :
    Yields P w G (do eqGuard op t ox oy vx vy; binOp op t vx vy) r := by
  have bind0 : ∀ {a b : Value}, (eqGuard op t ox oy a b).run P w = .ok () w → Yields P w G (binOp op t a b) r → Yields P w G (do eqGuard op t ox oy a b; binOp op t a b) r := fun hg ⟨v, hv, hr⟩ => ⟨v, by rw [Sem.run_bind, hg]; exact hv, hr⟩
  unfold binV at h
  split at h
  · -- whole numbers
    simp only [rep] at rx ry; subst rx; subst ry
    refine bind0 (guard_none (fun _ _ h => by cases h.1) (fun h => by cases h.1)) ?_
    split at h
    · exact shiftV_sound h
    · exact shiftV_sound h
    · split at h
      · rename_i e; subst e; exact intV_sound h
      · simp at h
  · -- strings
    rename_i a b
    simp only [rep] at rx ry; subst rx; subst ry
    refine bind0 (guard_none (fun _ _ h => by cases h.1) (fun h => by cases h.1)) ?_
    cases op <;> simp only [Option.some.injEq, reduceCtorEq] at h
    case add =>
      split at h
      · rename_i hl
        simp only [Option.some.injEq] at h; subst h
        refine ⟨.string ⟨(a ++ b).toArray⟩, ?_, rfl⟩
        have hsz : ((⟨a.toArray⟩ : ByteArray).size + (⟨b.toArray⟩ : ByteArray).size : Nat) = a.length + b.length := by simp [ByteArray.size]
        simp only [binOp, Op.stringOp, hsz]
        rw [if_neg (by simp [IntKind.max, IntKind.signed, IntKind.bits]; omega)]
        simp only [Sem.run_pure]
        rw [ba_append]
      · simp at h
    case eql => subst h; exact ⟨.bool (a == b), by simp [binOp, Op.stringOp], rfl⟩
    case neq => subst h; exact ⟨.bool (!(a == b)), by simp [binOp, Op.stringOp], rfl⟩
    case lss => subst h; exact ⟨.bool (Op.bytesLess a b), by simp [binOp, Op.stringOp], rfl⟩
    case leq => subst h; exact ⟨.bool (Op.bytesLess a b || a == b), by simp [binOp, Op.stringOp], rfl⟩
    case gtr => subst h; exact ⟨.bool (!(Op.bytesLess a b || a == b)), by simp [binOp, Op.stringOp], rfl⟩
    case geq => subst h; exact ⟨.bool (!(Op.bytesLess a b)), by simp [binOp, Op.stringOp], rfl⟩
  · -- bools
    simp only [rep] at rx ry; subst rx; subst ry
    split at h
    · rename_i hb
      unfold Tab.isBool at hb
      split at hb
      · rename_i hu
        obtain ⟨td, h1, _, h2⟩ := run_und ok hu
        have := TD.bool_inv h1; subst this
        exact eq_sound h (guard_none (fun _ _ h => by cases h.1) (fun h => by cases h.1)) (equal_run (h2 w) rfl) (fun o ho => by rcases ho with rfl | rfl <;> rfl)
      · simp at hb
    · simp at h
  · -- nil, nil
    simp only [rep] at rx ry; subst rx; subst ry
    split at h
    · rename_i hb
      simp only [Bool.and_eq_true] at hb
      obtain ⟨hb, hc⟩ := hb
      unfold Tab.isIface at hb
      split at hb
      · rename_i hu
        obtain ⟨td, h1, _, h2⟩ := run_und ok hu
        obtain ⟨m, rfl⟩ := TD.interface_inv h1
        exact eq_sound h (guard_none (fun _ _ h => by cases h.1) (fun _ => by simpa using hc)) (equal_run (h2 w) rfl) (fun o ho => by rcases ho with rfl | rfl <;> rfl)
      · simp at hb
    · simp at h
  · -- nil, a value
    obtain ⟨z, e, _⟩ := ry
    simp only [rep] at rx; subst rx; subst e
    split at h
    · rename_i hb
      unfold Tab.isIface at hb
      split at hb
      · rename_i hu
        obtain ⟨td, h1, _, h2⟩ := run_und ok hu
        obtain ⟨m, rfl⟩ := TD.interface_inv h1
        exact eq_sound h (guard_none (fun _ _ h => by cases h.1) (fun h => by cases h.2)) (equal_run (h2 w) rfl) (fun o ho => by rcases ho with rfl | rfl <;> rfl)
      · simp at hb
    · simp at h
  · obtain ⟨z, e, _⟩ := rx
    simp only [rep] at ry; subst ry; subst e
    split at h
    · rename_i hb
      unfold Tab.isIface at hb
      split at hb
      · rename_i hu
        obtain ⟨td, h1, _, h2⟩ := run_und ok hu
        obtain ⟨m, rfl⟩ := TD.interface_inv h1
        exact eq_sound h (guard_none (fun _ _ h => by cases h.1) (fun h => by cases h.1)) (equal_run (h2 w) rfl) (fun o ho => by rcases ho with rfl | rfl <;> rfl)
      · simp at hb
    · simp at h
  · -- a slice, nil
    obtain ⟨A, c, vs, rfl, _, _, _, r5, r6⟩ := rx
    obtain ⟨A', c', vs', rfl, _, q3, _, _, _⟩ := ry
    obtain ⟨rfl, rfl⟩ := q3 rfl
    rcases r6 with r6 | ⟨b, o, sz, rfl, _⟩
    · cases r6
    split at h
    · rename_i hb
      unfold Tab.isSlice at hb
      split at hb
      · rename_i hu
        obtain ⟨td, h1, _, h2⟩ := run_und ok hu
        have := TD.slice_inv h1; subst this
        exact eq_sound h (guard_none (fun _ _ h => by cases h.1) (fun h => by cases h.1)) (equal_run (h2 w) rfl) (fun o ho => by rcases ho with rfl | rfl <;> rfl)
      · simp at hb
    · simp at h
  · obtain ⟨A, c, vs, rfl, _, q4, _, r5, r6⟩ := rx
    obtain ⟨A', c', vs', rfl, _, q3, _, _, _⟩ := ry
    obtain ⟨rfl, rfl⟩ := q3 rfl
    obtain ⟨rfl, rfl⟩ := q4 rfl
    split at h
    · rename_i hb
      unfold Tab.isSlice at hb
      split at hb
      · rename_i hu
        obtain ⟨td, h1, _, h2⟩ := run_und ok hu
        have := TD.slice_inv h1; subst this
        exact eq_sound h (guard_none (fun _ _ h => by cases h.1) (fun h => by cases h.1)) (equal_run (h2 w) rfl) (fun o ho => by rcases ho with rfl | rfl <;> rfl)
      · simp at hb
    · simp at h
  · obtain ⟨A, c, vs, rfl, _, _, q4, r5, r6⟩ := rx
    obtain ⟨A', c', vs', rfl, _, q3, _, _, _⟩ := ry
    obtain ⟨rfl, rfl⟩ := q3 rfl
    obtain ⟨a, rfl, _⟩ := q4 (by omega)
    split at h
    · rename_i hb
      unfold Tab.isSlice at hb
      split at hb
      · rename_i hu
        obtain ⟨td, h1, _, h2⟩ := run_und ok hu
        have := TD.slice_inv h1; subst this
        exact eq_sound h (guard_none (fun _ _ h => by cases h.1) (fun h => by cases h.1)) (equal_run (h2 w) rfl) (fun o ho => by rcases ho with rfl | rfl <;> rfl)
      · simp at hb
    · simp at h
  · simp at h

theorem unV_sound {op : UnOp} {x r : AV} {v : Value} (h : unV op x = some r) (rx : rep G x v) : Yields P w G (Op.unary op v) r := by
  unfold unV at h
  split at h
  · simp only [rep] at rx; subst rx
    simp only [Option.some.injEq] at h; subst h
    rename_i k n
    exact ⟨.int k (k.wrap (0 - n)), rfl, by simp [rep, fw_eq]⟩
  · simp only [rep] at rx; subst rx
    simp only [intV, Option.some.injEq] at h; subst h
    exact ⟨_, rfl, rfl⟩
  · simp only [rep] at rx; subst rx
    simp only [Option.some.injEq] at h; subst h
    exact ⟨_, rfl, rfl⟩
  · simp at h
end
end Go.Pv

/- The library of typed predicate transformers: shapes of values, curried relations, environments of temporaries. Operations that only read: typed rules, and that the model's own operations do what they say. That the model's binary operators do what 'binR' says. -/
import Derived.WalkKit
import Derived.OrdersHeld
section
namespace Go.Shal
open Go
abbrev Heap := Array Obj
abbrev PP := Heap → Prop
abbrev Bytes := List UInt8
def bs (l : Bytes) : ByteArray := ⟨⟨l⟩⟩
def nope : PP := fun _ => False
def hcell (h : Heap) (a : Addr) : Option Value :=
  match h[a.block]? with
  | some (.cells c _ _) => if a.spot.isSome then none else c[a.off]?
  | _ => none
def hfrozen (h : Heap) (a : Addr) : Bool :=
  match h[a.block]? with
  | some (.cells _ _ (lo, hi)) => lo ≤ a.off && a.off < hi
  | _ => false
def hset (h : Heap) (a : Addr) (v : Value) : Heap :=
  h.modify a.block fun
    | .cells c elem fr => .cells (if a.spot.isSome then c else c.setIfInBounds a.off v) elem fr
    | o => o
theorem cell_eq (w : World) (a : Addr) : w.cell? a = hcell w.heap a := rfl
theorem frozen_eq (w : World) (a : Addr) : w.frozen? a = hfrozen w.heap a := rfl
/-- Tape, system and output are as they were. -/
structure Same (w w' : World) : Prop where
  tape : w'.tape = w.tape
  os : w'.os = w.os
  output : w'.output = w.output
theorem Same.refl (w : World) : Same w w := ⟨rfl, rfl, rfl⟩
theorem Same.trans {a b c : World} (h : Same a b) (k : Same b c) : Same a c :=
  ⟨k.tape.trans h.tape, k.os.trans h.os, k.output.trans h.output⟩
/-- A slice's value. -/
structure Sl where
  p : Option Addr
  len : Nat
  cap : Nat
  deriving DecidableEq, Inhabited
inductive Sc where
  | int (k : IntKind) | bool | str | ptr | addr | slice | map | any
  deriving DecidableEq, Inhabited
abbrev Sc.T : Sc → Type
  | .int _ => Int | .bool => Bool | .str => Bytes | .ptr => Option Addr | .addr => Addr | .slice => Sl | .map => Option Nat | .any => Value
def Sc.inj : (s : Sc) → s.T → Value
  | .int k, n => .int k n
  | .bool, b => .bool b
  | .str, l => .string (bs l)
  | .ptr, p => .pointer p
  | .addr, a => .pointer (some a)
  | .slice, s => .slice s.p s.len s.cap
  | .map, m => .map m
  | .any, v => v
def Sc.proj : (s : Sc) → Value → Option s.T
  | .int k, v => match v with
    | .int k' n => match decEq k k' with
      | .isTrue _ => some n
      | .isFalse _ => none
    | _ => none
  | .bool, v => match v with
    | .bool b => some b
    | _ => none
  | .str, v => match v with
    | .string x => some x.data.toList
    | _ => none
  | .ptr, v => match v with
    | .pointer p => some p
    | _ => none
  | .addr, v => match v with
    | .pointer p => p
    | _ => none
  | .slice, v => match v with
    | .slice a n c => some ⟨a, n, c⟩
    | _ => none
  | .map, v => match v with
    | .map m => some m
    | _ => none
  | .any, v => some v
theorem Sc.inj_proj (s : Sc) (v : Value) (x : s.T) (h : s.proj v = some x) : s.inj x = v := by
  cases s with
  | int k =>
    cases v <;> simp only [Sc.proj] at h <;> try (simp at h; done)
    rename_i k' n
    split at h
    · rename_i e _; cases h; subst e; rfl
    · cases h
  | any => cases h; rfl
  | str => cases v <;> simp [Sc.proj] at h; subst h; rfl
  | addr => cases v <;> simp [Sc.proj] at h; subst h; rfl
  | slice => cases v <;> simp [Sc.proj] at h; subst h; rfl
  | _ => cases v <;> simp [Sc.proj] at h; subst h; rfl
/-- A value's shape: one cell, or a struct's or array's cells. -/
inductive Sh where
  | sc (s : Sc)
  | agg (l : List Sc)
  deriving DecidableEq, Inhabited
def Sh.flat : Sh → List Sc
  | .sc s => [s]
  | .agg l => l
def flat : List Sh → List Sc
  | [] => []
  | .sc s :: r => s :: flat r
  | .agg l :: r => l ++ flat r
/-- The values out of their cells. -/
def group : List Sh → List Value → List Value
  | [], _ => []
  | .sc _ :: r, v :: vs => v :: group r vs
  | .sc _ :: r, [] => undef :: group r []
  | .agg l :: r, vs => .agg (vs.take l.length).toArray :: group r (vs.drop l.length)
/-- The cells of values. -/
def ungroup : List Sh → List Value → Option (List Value)
  | [], [] => some []
  | .sc _ :: r, v :: vs => match ungroup r vs with
    | some t => some (v :: t)
    | none => none
  | .agg l :: r, v :: vs => match v with
    | .agg cs => match Nat.beq cs.toList.length l.length with
      | true => match ungroup r vs with
        | some t => some (cs.toList ++ t)
        | none => none
      | false => none
    | _ => none
  | _, _ => none
theorem group_ungroup : ∀ (l : List Sh) (vs us : List Value), ungroup l vs = some us → group l us = vs
  | [], [], us, h => by cases h; rfl
  | [], _ :: _, _, h => by simp [ungroup] at h
  | .sc _ :: r, [], _, h => by simp [ungroup] at h
  | .agg _ :: r, [], _, h => by simp [ungroup] at h
  | .sc _ :: r, v :: vs, us, h => by
    simp only [ungroup] at h
    split at h
    · rename_i t ht; cases h; simp [group, group_ungroup r vs t ht]
    · cases h
  | .agg l :: r, v :: vs, us, h => by
    simp only [ungroup] at h
    split at h
    · rename_i cs
      split at h
      · rename_i hb
        have hb := Nat.eq_of_beq_eq_true hb
        split at h
        · rename_i t ht
          cases h
          simp only [group]
          rw [← hb, List.take_left, List.drop_left, group_ungroup r vs t ht]
        · cases h
      · cases h
    · cases h
abbrev FnT (R : Type) : List Sc → Type
  | [] => R
  | s :: l => s.T → FnT R l
abbrev Fn (l : List Sc) : Type := FnT PP l
abbrev FnN (l : List Sc) : Type := FnT (Heap → Nat) l
abbrev Tup : List Sc → Type
  | [] => Unit
  | s :: l => s.T × Tup l
def cur {R : Type} : (l : List Sc) → (Tup l → R) → FnT R l
  | [], f => f ()
  | _ :: l, f => fun x => cur l fun y => f (x, y)
def unc {R : Type} : (l : List Sc) → FnT R l → Tup l → R
  | [], f, _ => f
  | _ :: l, f, t => unc l (f t.1) t.2
def injs : (l : List Sc) → Tup l → List Value
  | [], _ => []
  | s :: l, t => s.inj t.1 :: injs l t.2
def projs : (l : List Sc) → List Value → Option (Tup l)
  | [], [] => some ()
  | s :: l, v :: vs => match s.proj v with
    | some x => match projs l vs with
      | some y => some (x, y)
      | none => none
    | none => none
  | _, _ => none
theorem unc_cur {R : Type} : ∀ (l : List Sc) (f : Tup l → R) (t : Tup l), unc l (cur l f) t = f t
  | [], _, () => rfl
  | _ :: l, f, (x, y) => by simp [unc, cur, unc_cur l]
theorem injs_projs : ∀ (l : List Sc) (vs : List Value) (t : Tup l), projs l vs = some t → injs l t = vs
  | [], [], _, _ => rfl
  | [], _ :: _, _, h => by simp [projs] at h
  | _ :: _, [], _, h => by simp [projs] at h
  | s :: l, v :: vs, t, h => by
    simp only [projs] at h
    split at h
    · rename_i x hx
      split at h
      · rename_i y hy
        cases h
        simp only [injs, s.inj_proj v x hx, injs_projs l vs y hy]
      · cases h
    · cases h
theorem injs_length : ∀ (l : List Sc) (t : Tup l), (injs l t).length = l.length
  | [], _ => rfl
  | _ :: l, t => by simp [injs, injs_length l]
/-- A relation put upon values: they must have the shapes. -/
def appV : (l : List Sc) → Fn l → List Value → PP
  | [], F, [] => F
  | [], _, _ :: _ => nope
  | s :: l, F, v :: vs => match s.proj v with
    | some x => appV l (F x) vs
    | none => nope
  | _ :: _, _, [] => nope
def kFn {R : Type} : (l : List Sc) → (List Value → R) → FnT R l
  | [], k => k []
  | s :: l, k => fun x => kFn l fun vs => k (s.inj x :: vs)
def exT : (l : List Sc) → Fn l → (List Value → Prop) → PP
  | [], F, E => fun h => E [] ∧ F h
  | s :: l, F, E => fun h => ∃ x : s.T, exT l (F x) (fun vs => E (s.inj x :: vs)) h
theorem appV_elim : ∀ (l : List Sc) (F : Fn l) (vs : List Value) (h : Heap), appV l F vs h → ∃ t, injs l t = vs ∧ unc l F t h
  | [], _, [], _, hh => ⟨(), rfl, hh⟩
  | [], _, _ :: _, _, hh => hh.elim
  | _ :: _, _, [], _, hh => hh.elim
  | s :: l, F, v :: vs, h, hh => by
    cases hx : s.proj v with
    | some x =>
      simp only [appV, hx] at hh
      obtain ⟨t, ht, hu⟩ := appV_elim l (F x) vs h hh
      exact ⟨(x, t), by simp [injs, ht, s.inj_proj v x hx], hu⟩
    | none => simp only [appV, hx] at hh; exact hh.elim
theorem kFn_unc {R : Type} : ∀ (l : List Sc) (k : List Value → R) (t : Tup l), unc l (kFn l k) t = k (injs l t)
  | [], _, () => rfl
  | s :: l, k, (x, y) => by simp [unc, kFn, injs, kFn_unc l]
theorem exT_elim : ∀ (l : List Sc) (F : Fn l) (E : List Value → Prop) (h : Heap), exT l F E h → ∃ t, E (injs l t) ∧ unc l F t h
  | [], _, _, _, hh => ⟨(), hh⟩
  | _ :: l, F, _, h, ⟨x, hx⟩ =>
    let ⟨t, h1, h2⟩ := exT_elim l (F x) _ h hx
    ⟨(x, t), h1, h2⟩
theorem exT_intro : ∀ (l : List Sc) (F : Fn l) (E : List Value → Prop) (h : Heap) (t : Tup l), E (injs l t) → unc l F t h → exT l F E h
  | [], _, _, _, (), h1, h2 => ⟨h1, h2⟩
  | _ :: l, F, _, h, (x, t), h1, h2 => ⟨x, exT_intro l (F x) _ h t h1 h2⟩
/-- The result that a call hands back, out of its values. -/
def retVal : List Value → Value
  | [v] => v
  | vs => .tuple vs.toArray
/-- A call of function f, whose results have these shapes. -/
def callT (P : Program) (f : FuncId) (args : Array Value) (l : List Sh) (Q : Fn (flat l)) : PP := fun h =>
  ∀ w : World, w.heap = h → Calls P f args w fun e w' => Same w w' ∧ exT (flat l) Q (fun vs => e = .returned (retVal (group l vs))) w'.heap
/-- A branch on a bool that is not known. -/
def ifB (b : Bool) (A B : PP) : PP := fun h =>
  match b with
  | true => A h
  | false => B h
/-- Where ways meet again. -/
def joinT (l : List Sc) (A : Fn l → PP) (B : Fn l) : PP := fun h =>
  ∃ M : Fn l, A M h ∧ ∀ t h, unc l M t h → unc l B t h
/-- A loop: an invariant and a measure. -/
def loopT (l : List Sc) (body : Fn l → Fn l) : Fn l := cur l fun x h =>
  ∃ (I : Fn l) (μ : FnN l), unc l I x h ∧ ∀ y h, unc l I y h → unc l (body (cur l fun z h' => unc l I z h' ∧ unc l μ z h' < unc l μ y h)) y h
end Go.Shal
end
section
namespace Go.Shal
open Go
theorem run_und {P : Program} {t : TypeId} {d : TypeDesc} (h : P.underlying t = some d) (w : World) : (underlying t).run P w = .ok d w := run_underlying h w
theorem run_ti {P : Program} {t : TypeId} {i : TypeInfo} (h : P.info? t = some i) (w : World) : (typeInfo t).run P w = .ok i w := by
  unfold typeInfo
  simp only [Sem.run_bind, run_program, Result.andThen_ok, h, Sem.run_pure]
def scOf (P : Program) (t : TypeId) : Option Sc :=
  match P.underlying t with
  | some (.int k) => some (.int k)
  | some .bool => some .bool
  | some .string => some .str
  | some (.pointer _) => some .ptr
  | some (.slice _) => some .slice
  | some (.map _ _) => some .map
  | some (.interface _) => some .any
  | some (.func _ _ _) => some .any
  | _ => none
def rep {α : Type} : Nat → List α → List α
  | 0, _ => []
  | n + 1, l => l ++ rep n l
def scsOf (P : Program) : Nat → TypeId → Option (List Sc)
  | 0, _ => none
  | n + 1, t =>
    match P.underlying t with
    | some (.struct fs) => fs.toList.foldr (fun f acc => match scsOf P n f.type with
      | some l => match acc with
        | some r => some (l ++ r)
        | none => none
      | none => none) (some [])
    | some (.array m e) => match scsOf P n e with
      | some l => some (rep m l)
      | none => none
    | _ => match scOf P t with
      | some s => some [s]
      | none => none
/-- The shape of a type's values, where its size is what the model has. -/
def shOf (P : Program) (t : TypeId) : Option Sh :=
  match P.underlying t with
  | some (.struct _) | some (.array _ _) => match scsOf P 8 t with
    | some l => match P.info? t with
      | some i => match Nat.beq i.size l.length with
        | true => some (.agg l)
        | false => none
      | none => none
    | none => none
  | _ => match scOf P t with
    | some s => some (.sc s)
    | none => none
def regroup : Sh → List Value → Value
  | .sc _, [v] => v
  | .sc _, _ => undef
  | .agg _, vs => .agg vs.toArray
/-- Cells read from place i on. -/
def ldsT (rd : PP → Prop) (a : Addr) : (l : List Sc) → Nat → Fn l → PP
  | [], _, Q => Q
  | s :: l, i, Q => fun h => ∃ x : s.T, rd (fun h' => hcell h' (a.add i) = some (s.inj x)) ∧ ldsT rd a l (i + 1) (Q x) h
/-- A variable is read. -/
def ldT (rd : PP → Prop) (a : Addr) : (sh : Sh) → Fn sh.flat → PP
  | .sc s, Q => fun h => ∃ x : s.T, rd (fun h' => hcell h' a = some (s.inj x)) ∧ Q x h
  | .agg l, Q => ldsT rd a l 0 Q
theorem ldsT_elim (rd : PP → Prop) (a : Addr) : ∀ (l : List Sc) (i : Nat) (Q : Fn l) (h : Heap), ldsT rd a l i Q h →
    ∃ t, (∀ j v, (injs l t)[j]? = some v → rd (fun h' => hcell h' (a.add (i + j)) = some v)) ∧ unc l Q t h
  | [], _, _, _, hh => ⟨(), by simp [injs], hh⟩
  | s :: l, i, Q, h, ⟨x, hx, hh⟩ => by
    obtain ⟨t, ht, hq⟩ := ldsT_elim rd a l (i + 1) (Q x) h hh
    refine ⟨(x, t), fun j v hj => ?_, hq⟩
    cases j with
    | zero => simp [injs] at hj; subst hj; exact hx
    | succ j =>
      have := ht j v (by simpa [injs] using hj)
      rwa [show i + 1 + j = i + (j + 1) from by omega] at this
def RVal (P : Program) (rd : PP → Prop) (s : Sem Value) (v : Value) : Prop :=
  ∀ w : World, (∀ p : PP, rd p → p w.heap) → s.run P w = .ok v w
theorem isAgg_sc {P : Program} {t : TypeId} {s : Sc} (h : shOf P t = some (.sc s)) (w : World) : (isAgg t).run P w = .ok false w := by
  unfold shOf scOf at h
  unfold isAgg
  rw [Sem.run_bind]
  cases hu : P.underlying t with
  | none => simp [hu] at h
  | some d =>
    rw [run_und hu]
    cases d <;> simp [hu] at h <;> first
      | rfl
      | (split at h <;> try (cases h; done)
         split at h <;> try (cases h; done)
         split at h <;> cases h)
theorem isAgg_agg {P : Program} {t : TypeId} {l : List Sc} (h : shOf P t = some (.agg l)) (w : World) :
    (isAgg t).run P w = .ok true w ∧ (sizeOf t).run P w = .ok l.length w := by
  unfold shOf scOf at h
  have hsz : ∀ i, P.info? t = some i → Nat.beq i.size l.length = true → (sizeOf t).run P w = .ok l.length w := fun i hi hb => by
    have := Nat.eq_of_beq_eq_true hb
    simp only [sizeOf, Sem.run_bind, run_ti hi, Result.andThen_ok, Sem.run_pure, this]
  unfold isAgg
  rw [Sem.run_bind]
  cases hu : P.underlying t with
  | none => simp [hu] at h
  | some d =>
    rw [run_und hu]
    cases d <;> simp [hu] at h
    all_goals
      split at h <;> try (cases h; done)
      split at h <;> try (cases h; done)
      split at h <;> cases h
      exact ⟨rfl, hsz _ (by assumption) (by assumption)⟩
theorem loadVar_sc {P : Program} {t : TypeId} {s : Sc} (h : shOf P t = some (.sc s)) (w : World) (a : Addr) (v : Value) (hc : hcell w.heap a = some v) :
    (loadVar t a).run P w = .ok v w := by
  unfold loadVar
  simp only [Sem.run_bind, isAgg_sc h, Result.andThen_ok, Bool.false_eq_true, if_false, run_load, cell_eq, hc]
theorem loadVar_agg {P : Program} {t : TypeId} {l : List Sc} (h : shOf P t = some (.agg l)) (w : World) (a : Addr) (vs : List Value) (hl : vs.length = l.length)
    (hc : ∀ j v, vs[j]? = some v → hcell w.heap (a.add j) = some v) : (loadVar t a).run P w = .ok (.agg vs.toArray) w := by
  unfold loadVar
  have hh := run_loadCells_list (P := P) (w := w) a vs (fun j v hj => hc j v hj)
  simp only [Sem.run_bind, (isAgg_agg h w).1, Result.andThen_ok, if_true, (isAgg_agg h w).2, ← hl, hh, Sem.run_pure]
theorem ldT_sound {P : Program} {rd : PP → Prop} {t : TypeId} {sh : Sh} (hs : shOf P t = some sh) {a : Addr} {h : Heap} {K : Value → PP}
    (hh : ldT rd a sh (kFn sh.flat fun vs => K (regroup sh vs)) h) : ∃ v, RVal P rd (loadVar t a) v ∧ K v h := by
  cases sh with
  | sc s =>
    obtain ⟨x, hx, hk⟩ := hh
    exact ⟨s.inj x, fun w hw => loadVar_sc hs w a _ (hw _ hx), hk⟩
  | agg l =>
    obtain ⟨tt, ht, hk⟩ := ldsT_elim rd a l 0 _ h hh
    have hk : unc l (kFn l fun vs => K (regroup (.agg l) vs)) tt h := hk
    rw [kFn_unc] at hk
    exact ⟨_, fun w hw => loadVar_agg hs w a (injs l tt) (injs_length l tt) (fun j v hj => by simpa using hw _ (ht j v hj)), hk⟩
/-! ### Binary operators -/
def intBin (op : BinOp) (k : IntKind) (x y : Int) (K : Value → PP) : PP :=
  match op with
  | .add => K (.int k (k.wrap (x + y)))
  | .sub => K (.int k (k.wrap (x - y)))
  | .mul => K (.int k (k.wrap (x * y)))
  | .quo => fun h => y ≠ 0 ∧ K (.int k (k.wrap (x.tdiv y))) h
  | .rem => fun h => y ≠ 0 ∧ K (.int k (x.tmod y)) h
  | .and => K (.int k (k.wrap (BitVec.ofInt k.bits x &&& BitVec.ofInt k.bits y).toNat))
  | .or => K (.int k (k.wrap (BitVec.ofInt k.bits x ||| BitVec.ofInt k.bits y).toNat))
  | .xor => K (.int k (k.wrap (BitVec.ofInt k.bits x ^^^ BitVec.ofInt k.bits y).toNat))
  | .andNot => K (.int k (k.wrap (BitVec.ofInt k.bits x &&& ~~~BitVec.ofInt k.bits y).toNat))
  | .eql => K (.bool (x == y))
  | .neq => K (.bool (x != y))
  | .lss => K (.bool (decide (x < y)))
  | .leq => K (.bool (decide (x ≤ y)))
  | .gtr => K (.bool (decide (x > y)))
  | .geq => K (.bool (decide (x ≥ y)))
  | _ => nope
def strBin (op : BinOp) (x y : Bytes) (K : Value → PP) : PP :=
  match op with
  | .add => fun h => x.length + y.length ≤ 9223372036854775807 ∧ K (.string (bs (x ++ y))) h
  | .eql => K (.bool (x == y))
  | .neq => K (.bool (!(x == y)))
  | .lss => K (.bool (Op.bytesLess x y))
  | .leq => K (.bool (Op.bytesLess x y || x == y))
  | .gtr => K (.bool (!(Op.bytesLess x y || x == y)))
  | .geq => K (.bool (!(Op.bytesLess x y)))
  | _ => nope
def eqRes (op : BinOp) (b : Bool) (K : Value → PP) : PP :=
  match op with
  | .eql => K (.bool b)
  | .neq => K (.bool (!b))
  | _ => nope
/-- Two pointers held against each other: one of them is nil. -/
def ptrNil (p q : Option Addr) : Prop := p = none ∨ q = none
/-- Interface values, one of them nil. -/
def ifaceEq : Value → Value → Option Bool
  | .nilIface, .nilIface => some true
  | .nilIface, .iface _ _ => some false
  | .iface _ _, .nilIface => some false
  | _, _ => none
def funcEq : Value → Value → Option Bool
  | .nilFunc, .nilFunc => some true
  | .nilFunc, .func _ _ _ => some false
  | .func _ _ _, .nilFunc => some false
  | _, _ => none
/-- Two structs' values held against each other. -/
def SEq (P : Program) (t : TypeId) (v1 v2 : Value) (b : Bool) : Prop :=
  (∃ c1 c2, v1 = .agg c1 ∧ v2 = .agg c2) ∧ (∀ (w : World) (op : BinOp) (x y : Operand), (eqGuard op t x y v1 v2).run P w = .ok () w) ∧ ∀ w : World, (Op.equal t v1 v2).run P w = .ok b w
/-- Does an operand stand for a constant? -/
def isC : Operand → Bool
  | .const _ => true
  | _ => false
def binR (P : Program) (op : BinOp) (t : TypeId) (cx cy : Bool) (v1 v2 : Value) (K : Value → PP) : PP :=
  match P.underlying t with
  | some (.int _) => match v1 with
    | .int k a => match v2 with
      | .int k' b => match op with
        | .shl => fun h => 0 ≤ b ∧ K (.int k (k.wrap (a * 2 ^ (min b.toNat k.bits)))) h
        | .shr => fun h => 0 ≤ b ∧ K (.int k (a.fdiv (2 ^ (min b.toNat k.bits)))) h
        | op => match decEq k k' with
          | .isTrue _ => intBin op k a b K
          | .isFalse _ => nope
      | _ => nope
    | _ => nope
  | some .string => match v1 with
    | .string x => match v2 with
      | .string y => strBin op x.data.toList y.data.toList K
      | _ => nope
    | _ => nope
  | some .bool => match v1 with
    | .bool x => match v2 with
      | .bool y => eqRes op (x == y) K
      | _ => nope
    | _ => nope
  | some (.pointer _) => match v1 with
    | .pointer p => match v2 with
      | .pointer q => fun h => ptrNil p q ∧ eqRes op (decide (p = q)) K h
      | _ => nope
    | _ => nope
  | some (.slice _) => match v1 with
    | .slice p _ _ => match v2 with
      | .slice q _ _ => fun h => ptrNil p q ∧ eqRes op (decide (p = q)) K h
      | _ => nope
    | _ => nope
  | some (.map _ _) => match v1 with
    | .map p => match v2 with
      | .map q => fun h => (p = none ∨ q = none) ∧ eqRes op (decide (p = q)) K h
      | _ => nope
    | _ => nope
  | some (.interface _) => match cx || cy with
    | true => fun h => ∃ b, ifaceEq v1 v2 = some b ∧ eqRes op b K h
    | false => nope
  | some (.func _ _ _) => fun h => ∃ b, funcEq v1 v2 = some b ∧ eqRes op b K h
  | some (.struct _) => fun h => ∃ b, SEq P t v1 v2 b ∧ eqRes op b K h
  | _ => nope
def binSem (op : BinOp) (t : TypeId) (x y : Operand) (v1 v2 : Value) : Sem Value := do eqGuard op t x y v1 v2; binOp op t v1 v2
end Go.Shal
end
section
namespace Go.Shal
open Go
theorem toList_data (x : ByteArray) : x.toList = x.data.toList := ByteArray.toList_eq x
theorem bs_append (x y : ByteArray) : x ++ y = bs (x.data.toList ++ y.data.toList) := by
  apply ByteArray.ext
  simp [bs]
theorem eqGuard_int (P : Program) (op : BinOp) (t : TypeId) (x y : Operand) (k k' : IntKind) (a b : Int) (w : World) : (eqGuard op t x y (.int k a) (.int k' b)).run P w = .ok () w := by
  unfold eqGuard; cases op <;> rfl
theorem eqGuard_string (P : Program) (op : BinOp) (t : TypeId) (x y : Operand) (a b : ByteArray) (w : World) : (eqGuard op t x y (.string a) (.string b)).run P w = .ok () w := by
  unfold eqGuard; cases op <;> rfl
theorem eqGuard_bool (P : Program) (op : BinOp) (t : TypeId) (x y : Operand) (a b : Bool) (w : World) : (eqGuard op t x y (.bool a) (.bool b)).run P w = .ok () w := by
  unfold eqGuard; cases op <;> rfl
theorem eqGuard_pointer (P : Program) (op : BinOp) (t : TypeId) (x y : Operand) (a b : Option Addr) (w : World) : (eqGuard op t x y (.pointer a) (.pointer b)).run P w = .ok () w := by
  unfold eqGuard; cases op <;> rfl
theorem eqGuard_slice (P : Program) (op : BinOp) (t : TypeId) (x y : Operand) (a b : Option Addr) (n m c d : Nat) (w : World) : (eqGuard op t x y (.slice a n c) (.slice b m d)).run P w = .ok () w := by
  unfold eqGuard; cases op <;> rfl
theorem eqGuard_map (P : Program) (op : BinOp) (t : TypeId) (x y : Operand) (a b : Option Nat) (w : World) : (eqGuard op t x y (.map a) (.map b)).run P w = .ok () w := by
  unfold eqGuard; cases op <;> rfl
theorem equal_bool {P : Program} {t : TypeId} (hu : P.underlying t = some .bool) (a b : Bool) (w : World) : (Op.equal t (.bool a) (.bool b)).run P w = .ok (a == b) w := by
  show (Op.equalIn (9999 + 1) t _ _).run P w = _
  rw [Op.equalIn]; simp only [Sem.run_bind, run_und hu, Result.andThen_ok, Sem.run_pure]
theorem equal_pointer {P : Program} {t e : TypeId} (hu : P.underlying t = some (.pointer e)) (p q : Option Addr) (hn : ptrNil p q) (w : World) :
    (Op.equal t (.pointer p) (.pointer q)).run P w = .ok (decide (p = q)) w := by
  show (Op.equalIn (9999 + 1) t _ _).run P w = _
  rw [Op.equalIn]; simp only [Sem.run_bind, run_und hu, Result.andThen_ok]
  cases p <;> cases q <;> first | (simp [ptrNil] at hn; done) | simp
theorem equal_slice {P : Program} {t e : TypeId} (hu : P.underlying t = some (.slice e)) (p q : Option Addr) (n m c d : Nat) (hn : ptrNil p q) (w : World) :
    (Op.equal t (.slice p n c) (.slice q m d)).run P w = .ok (decide (p = q)) w := by
  show (Op.equalIn (9999 + 1) t _ _).run P w = _
  rw [Op.equalIn]; simp only [Sem.run_bind, run_und hu, Result.andThen_ok]
  cases p <;> cases q <;> first | (simp [ptrNil] at hn; done) | simp
theorem equal_map {P : Program} {t k e : TypeId} (hu : P.underlying t = some (.map k e)) (p q : Option Nat) (hn : p = none ∨ q = none) (w : World) :
    (Op.equal t (.map p) (.map q)).run P w = .ok (decide (p = q)) w := by
  show (Op.equalIn (9999 + 1) t _ _).run P w = _
  rw [Op.equalIn]; simp only [Sem.run_bind, run_und hu, Result.andThen_ok]
  cases p <;> cases q <;> first | (simp at hn; done) | simp
theorem equal_iface {P : Program} {t : TypeId} {ms : Array (String × TypeId)} (hu : P.underlying t = some (.interface ms)) (v1 v2 : Value) (b : Bool) (hb : ifaceEq v1 v2 = some b) (w : World) :
    (Op.equal t v1 v2).run P w = .ok b w := by
  show (Op.equalIn (9999 + 1) t _ _).run P w = _
  rw [Op.equalIn.eq_def]; simp only [Sem.run_bind, run_und hu, Result.andThen_ok]
  unfold ifaceEq at hb
  split at hb <;> cases hb <;> rfl
theorem equal_func {P : Program} {t : TypeId} {ps rs : Array TypeId} {vv : Bool} (hu : P.underlying t = some (.func ps rs vv)) (v1 v2 : Value) (b : Bool) (hb : funcEq v1 v2 = some b) (w : World) :
    (Op.equal t v1 v2).run P w = .ok b w := by
  show (Op.equalIn (9999 + 1) t _ _).run P w = _
  rw [Op.equalIn.eq_def]; simp only [Sem.run_bind, run_und hu, Result.andThen_ok]
  unfold funcEq at hb
  split at hb <;> cases hb <;> rfl
/-- '==' and '!=', where they come to 'equal'. -/
theorem eqRes_sound {P : Program} {rd : PP → Prop} {op : BinOp} {t : TypeId} {x y : Operand} {v1 v2 : Value} {K : Value → PP} {h : Heap} (b : Bool)
    (hg : ∀ w, (eqGuard op t x y v1 v2).run P w = .ok () w)
    (he : binOp .eql t v1 v2 = (do pure (.bool (← Op.equal t v1 v2)))) (hn : binOp .neq t v1 v2 = (do pure (.bool (!(← Op.equal t v1 v2)))))
    (heq : ∀ w, (Op.equal t v1 v2).run P w = .ok b w) (hh : eqRes op b K h) : ∃ v, RVal P rd (binSem op t x y v1 v2) v ∧ K v h := by
  unfold eqRes at hh
  split at hh
  · exact ⟨_, fun w _ => by simp only [binSem, Sem.run_bind, hg, Result.andThen_ok, he, heq, Sem.run_pure], hh⟩
  · exact ⟨_, fun w _ => by simp only [binSem, Sem.run_bind, hg, Result.andThen_ok, hn, heq, Sem.run_pure], hh⟩
  · exact hh.elim
theorem intBin_sound {P : Program} {rd : PP → Prop} {op : BinOp} {t : TypeId} {x y : Operand} {k : IntKind} {a b : Int} {K : Value → PP} {h : Heap}
    (n1 : op ≠ .shl) (n2 : op ≠ .shr) (hh : intBin op k a b K h) : ∃ v, RVal P rd (binSem op t x y (.int k a) (.int k b)) v ∧ K v h := by
  have key : ∀ v, (∀ w, (binOp op t (.int k a) (.int k b)).run P w = .ok v w) → K v h → ∃ v, RVal P rd (binSem op t x y (.int k a) (.int k b)) v ∧ K v h :=
    fun v hv hk => ⟨v, fun w _ => by simp only [binSem, Sem.run_bind, eqGuard_int, Result.andThen_ok, hv], hk⟩
  have neg : ¬ (k ≠ k) := fun e => e rfl
  unfold intBin at hh
  split at hh
  case h_4 => exact key _ (fun w => by show (if k ≠ k then _ else _ : Sem Value).run P w = _; rw [if_neg neg]; simp [Op.intDiv, hh.1]) hh.2
  case h_5 => exact key _ (fun w => by show (if k ≠ k then _ else _ : Sem Value).run P w = _; rw [if_neg neg]; simp [Op.intDiv, hh.1]) hh.2
  all_goals first
    | exact hh.elim
    | exact key _ (fun w => by show (if k ≠ k then _ else _ : Sem Value).run P w = _; rw [if_neg neg]; rfl) hh
theorem binOp_string (op : BinOp) (t : TypeId) (a b : ByteArray) : binOp op t (.string a) (.string b) = Op.stringOp op a b := by cases op <;> rfl
theorem strBin_sound {P : Program} {rd : PP → Prop} {op : BinOp} {t : TypeId} {x y : Operand} {a b : ByteArray} {K : Value → PP} {h : Heap}
    (hh : strBin op a.data.toList b.data.toList K h) : ∃ v, RVal P rd (binSem op t x y (.string a) (.string b)) v ∧ K v h := by
  have key : ∀ v, (∀ w, (binOp op t (.string a) (.string b)).run P w = .ok v w) → K v h → ∃ v, RVal P rd (binSem op t x y (.string a) (.string b)) v ∧ K v h :=
    fun v hv hk => ⟨v, fun w _ => by simp only [binSem, Sem.run_bind, eqGuard_string, Result.andThen_ok, hv], hk⟩
  unfold strBin at hh
  split at hh
  case h_1 =>
    refine key _ (fun w => ?_) hh.2
    have e1 : a.data.toList.length = a.size := by show a.data.toList.length = a.data.size; simp
    have e2 : b.data.toList.length = b.size := by show b.data.toList.length = b.data.size; simp
    have h1 := hh.1
    have hm : IntKind.i64.max = 9223372036854775807 := by decide
    have hb : ¬ (((a.size + b.size : Nat) : Int) > IntKind.i64.max) := by rw [hm]; omega
    show (Op.stringOp .add a b).run P w = _
    unfold Op.stringOp
    simp only [if_neg hb, bs_append]
    rfl
  all_goals first
    | exact hh.elim
    | exact key _ (fun w => by
        rw [binOp_string]
        unfold Op.stringOp
        simp only [toList_data]
        rfl) hh
theorem binR_sound {P : Program} {rd : PP → Prop} {op : BinOp} {t : TypeId} {x y : Operand} {v1 v2 : Value} {K : Value → PP} {h : Heap}
    (hh : binR P op t (isC x) (isC y) v1 v2 K h) : ∃ v, RVal P rd (binSem op t x y v1 v2) v ∧ K v h := by
  unfold binR at hh
  cases hu : P.underlying t with
  | none => rw [hu] at hh; exact hh.elim
  | some d =>
    rw [hu] at hh
    cases d <;> dsimp only at hh
    case int =>
      split at hh
      case h_2 => exact hh.elim
      split at hh
      case h_2 => exact hh.elim
      rename_i k a _ k' b
      cases op <;> dsimp only at hh
      case shl => exact ⟨_, fun w _ => by simp [binSem, eqGuard_int, binOp, Op.shift, Int.not_lt.2 hh.1], hh.2⟩
      case shr => exact ⟨_, fun w _ => by simp [binSem, eqGuard_int, binOp, Op.shift, Int.not_lt.2 hh.1], hh.2⟩
      all_goals
        cases hk : decEq k k' with
        | isTrue e => rw [hk] at hh; subst e; exact intBin_sound (by simp) (by simp) hh
        | isFalse e => rw [hk] at hh; exact hh.elim
    case string =>
      split at hh
      case h_2 => exact hh.elim
      split at hh
      case h_2 => exact hh.elim
      exact strBin_sound hh
    case bool =>
      split at hh
      case h_2 => exact hh.elim
      split at hh
      case h_2 => exact hh.elim
      exact eqRes_sound _ (eqGuard_bool P op t x y _ _) rfl rfl (equal_bool hu _ _) hh
    case pointer =>
      split at hh
      case h_2 => exact hh.elim
      split at hh
      case h_2 => exact hh.elim
      exact eqRes_sound _ (eqGuard_pointer P op t x y _ _) rfl rfl (equal_pointer hu _ _ hh.1) hh.2
    case slice =>
      split at hh
      case h_2 => exact hh.elim
      split at hh
      case h_2 => exact hh.elim
      exact eqRes_sound _ (eqGuard_slice P op t x y _ _ _ _ _ _) rfl rfl (equal_slice hu _ _ _ _ _ _ hh.1) hh.2
    case map =>
      split at hh
      case h_2 => exact hh.elim
      split at hh
      case h_2 => exact hh.elim
      exact eqRes_sound _ (eqGuard_map P op t x y _ _) rfl rfl (equal_map hu _ _ hh.1) hh.2
    case interface =>
      cases hc : (isC x || isC y) with
      | false => rw [hc] at hh; exact hh.elim
      | true =>
      rw [hc] at hh
      obtain ⟨b, hb, hh⟩ := hh
      have hb' := hb
      unfold ifaceEq at hb'
      split at hb' <;> cases hb'
      · refine eqRes_sound _ (fun w => ?_) rfl rfl (equal_iface hu _ _ _ hb) hh
        unfold eqGuard
        cases x <;> cases y <;> simp [isC] at hc <;> cases op <;> rfl
      · refine eqRes_sound _ (fun w => ?_) rfl rfl (equal_iface hu _ _ _ hb) hh
        unfold eqGuard; cases op <;> rfl
      · refine eqRes_sound _ (fun w => ?_) rfl rfl (equal_iface hu _ _ _ hb) hh
        unfold eqGuard; cases op <;> rfl
    case func =>
      obtain ⟨b, hb, hh⟩ := hh
      have hb' := hb
      unfold funcEq at hb'
      split at hb' <;> cases hb'
      all_goals
        refine eqRes_sound _ (fun w => ?_) rfl rfl (equal_func hu _ _ _ hb) hh
        unfold eqGuard; cases op <;> rfl
    case struct =>
      obtain ⟨b, ⟨⟨c1, c2, e1, e2⟩, hg, he⟩, hh⟩ := hh
      subst e1 e2
      exact eqRes_sound b (fun w => hg w op x y) rfl rfl he hh
    all_goals exact hh.elim
end Go.Shal
end

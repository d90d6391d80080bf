/- Code as predicate transformers over environments. The words that the printed texts use. That code does what 'den' says. From a function's text to its contract. -/
import Derived.Test.YtemfgkhholobgaaGreatDoorCC
section
namespace Go.Shal
open Go
inductive Kind | r | w | c
  deriving DecidableEq
/-- Which rule an operation goes by. -/
def kindOf (P : Program) (o : Oper) : Kind :=
  match o.op with
  | .alloc _ | .box _ _ | .build _ _ | .buildSlice _ _ _ | .store _ _ _ | .makeMap _ _ | .makeSlice _ _ _ | .lookup _ _ _ _ | .mapUpdate _ _ _ _ | .range _ _ | .next _ _ | .entry _ => .w
  | .convert src dst _ => match P.underlying src with
    | some .string => match P.underlying dst with
      | some (.slice _) => .w
      | _ => .r
    | _ => .r
  | .call c => match c.callee with
    | .builtin b => match b with
      | .append | .copy | .delete => .w
      | .len => match c.argTypes.toList with
        | t :: _ => match P.underlying t with
          | some (.map _ _) => .w
          | _ => .r
        | _ => .r
      | _ => .r
    | _ => .c
  | _ => .r
def shsOf (P : Program) : List TypeId → Option (List Sh)
  | [] => some []
  | t :: r => match shOf P t with
    | some s => match shsOf P r with
      | some l => some (s :: l)
      | none => none
    | none => none
/-- The results of a call of this type. -/
def resOf (P : Program) (t : TypeId) : Option (List Sh) :=
  match P.info? t with
  | some i => match i.desc with
    | .tuple ts => shsOf P ts.toList
    | _ => shsOf P [t]
  | none => none
/-- A call of a function value. -/
def callV (P : Program) (v : Value) (args : Array Value) (l : List Sh) (Q : Fn (flat l)) : PP := fun h =>
  ∃ f first cap fn, v = .func (.func f) first cap ∧ P.funcs[f]? = some fn ∧ fn.body.isSome = true ∧ callT P f (first ++ args ++ cap) l Q h
def opC (P : Program) (σ : Env) (o : Oper) (K : Value → PP) : PP :=
  match o.op with
  | .call c => match c.callee with
    | .value x => match evs σ c.args.toList with
      | some vs => match x with
        | .func f => match P.funcs[f]? with
          | some fn => match fn.body with
            | some _ => match shsOf P fn.resultTypes.toList with
              | some l => callT P f vs.toArray l (kFn (flat l) fun us => K (retVal (group l us)))
              | none => nope
            | none => nope
          | none => nope
        | _ => match ev σ x with
          | some v => match resOf P o.type with
            | some l => callV P v vs.toArray l (kFn (flat l) fun us => K (retVal (group l us)))
            | none => nope
          | none => nope
      | none => nope
    | _ => nope
  | _ => nope
/-- Whatever operation. -/
def opD (P : Program) (σ : Env) (o : Oper) (K : Value → PP) : PP :=
  match kindOf P o with
  | .r => fun h => opR P σ o (fun p => p h) K h
  | .w => opW P σ o K
  | .c => opC P σ o K
def setE (σ : Env) (dst : Option Tmp) (v : Value) : Env :=
  match dst with
  | some t => (t, v) :: σ
  | none => σ
/-- May the result be put there? -/
def fitsD (n : Nat) (dst : Option Tmp) : Bool :=
  match dst with
  | some t => Nat.blt t n
  | none => true
/-- What is done where an operation's guard is known, or is found out. -/
def guardD (ops : List Oper) (σ : Env) (o : Oper) (go skip : Env → PP) : PP :=
  match o.guard with
  | none => go σ
  | some (j, want) => match ops[j]? with
    | some oj => match oj.dst with
      | some t => match lk σ t with
        | some (.bool b) => match want with
          | true => ifB b (go ((t, .bool true) :: σ)) (skip ((t, .bool false) :: σ))
          | false => ifB b (skip ((t, .bool true) :: σ)) (go ((t, .bool false) :: σ))
        | some (.tuple _) => skip σ
        | _ => nope
      | none => nope
    | none => nope
/-- The operations of a region in their order. -/
def denOps (P : Program) (n : Nat) (ops : List Oper) : List Oper → Env → (Env → PP) → PP
  | [], σ, K => K σ
  | o :: r, σ, K => match fitsD n o.dst with
    | true => guardD ops σ o (fun σ => opD P σ o fun v => denOps P n ops r (setE σ o.dst v) K) (fun σ => denOps P n ops r (setE σ o.dst undef) K)
    | false => nope
/-- In which order a region's operations are gone through: one first; each of some, and what follows. -/
inductive Sched
  | done | none
  | take (i : Nat) (r : Sched)
  | alt (i : Nat) (s r : Sched)
def memN (t : Nat) : List Nat → Bool
  | [] => false
  | u :: r => match Nat.beq t u with
    | true => true
    | false => memN t r
def andP (A B : PP) : PP := fun h => A h ∧ B h
def always (S : PP) (p : PP) : Prop := ∀ h, S h → p h
def withS (S : PP) (K : PP) : PP := fun h => S h ∧ K h
/-- What is held at the places of a region that draws: S behind each of N, or nothing. -/
abbrev Held := Option (List Nat × PP)
def Held.rd (m : Held) : PP → Prop :=
  match m with
  | some (_, S) => always S
  | none => always fun _ => True
/-- Behind operation i. -/
def Held.behind (m : Held) (i : Nat) (K : Held → PP) : PP :=
  match m with
  | some (N, S) => match memN i N with
    | true => withS S (K (some (N, S)))
    | false => K none
  | none => K none
/-- The operations of a region that draws its order. -/
def denD (P : Program) (n : Nat) (ops : List Oper) : Sched → Held → Env → (Env → PP) → PP
  | .done, _, σ, K => K σ
  | .none, _, _, _ => fun _ => True
  | .take i r, m, σ, K => match ops[i]? with
    | some o => match fitsD n o.dst with
      | true => match kindOf P o with
        | .r => guardD ops σ o (fun σ => opR P σ o m.rd fun v => denD P n ops r m (setE σ o.dst v) K) (fun σ => denD P n ops r m (setE σ o.dst undef) K)
        | _ => nope
      | false => nope
    | none => nope
  | .alt i s r, m, σ, K => match ops[i]? with
    | some o => match fitsD n o.dst with
      | true => match r with
        | .none => guardD ops σ o (fun σ => opD P σ o fun v => m.behind i fun m => denD P n ops s m (setE σ o.dst v) K) (fun σ => m.behind i fun m => denD P n ops s m (setE σ o.dst undef) K)
        | _ => andP (guardD ops σ o (fun σ => opD P σ o fun v => m.behind i fun m => denD P n ops s m (setE σ o.dst v) K) (fun σ => m.behind i fun m => denD P n ops s m (setE σ o.dst undef) K))
          (denD P n ops r m σ K)
      | false => nope
    | none => nope
def drawT (A : PP → PP) : PP := fun h => ∃ S : PP, S h ∧ A S h
inductive Ann
  | leaf
  | seq (a b : Ann)
  | cond (a b : Ann)
  | block (a : Ann)
  | loop (l : List (Nat × Sh)) (a : Ann)
  | join (l : List (Nat × Sh)) (a b : Ann)
  | draw (N : List Nat) (s : Sched)
def writesO (ops : List Oper) : List Nat := ops.foldr (fun o acc => match o.dst with
  | some t => t :: acc
  | none => acc) []
def writes : Code → List Nat
  | .region _ ops _ => writesO ops.toList
  | .seq a b => writes a ++ writes b
  | .cond _ a b => writes a ++ writes b
  | .block _ a => writes a
  | .loop a => writes a
  | _ => []
def rmE (ws : List Nat) : Env → Env
  | [] => []
  | (t, v) :: r => match memN t ws with
    | true => rmE ws r
    | false => (t, v) :: rmE ws r
def getE (σ : Env) : List (Nat × Sh) → Option (List Value)
  | [] => some []
  | (t, _) :: r => match lk σ t with
    | some v => match getE σ r with
      | some vs => some (v :: vs)
      | none => none
    | none => none
def shs : List (Nat × Sh) → List Sh
  | [] => []
  | (_, s) :: r => s :: shs r
def zipE : List (Nat × Sh) → List Value → Env
  | (t, _) :: r, v :: vs => (t, v) :: zipE r vs
  | _, _ => []
def appE (l : List (Nat × Sh)) (F : Fn (flat (shs l))) (σ : Env) : PP :=
  match getE σ l with
  | some us => match ungroup (shs l) us with
    | some vs => appV (flat (shs l)) F vs
    | none => nope
  | none => nope
def encE (l : List (Nat × Sh)) (ws : List Nat) (σ : Env) (vs : List Value) : Env := zipE l (group (shs l) vs) ++ rmE ws σ
def den (P : Program) (n : Nat) : Ann → Code → Env → (Env → PP) → (Nat → Env → PP) → (Env → PP) → PP
  | .leaf, c, σ, KN, KX, KR => match c with
    | .skip => KN σ
    | .region _ ops false => denOps P n ops.toList ops.toList σ KN
    | .exit i => KX i σ
    | .ret => KR σ
    | _ => nope
  | .seq a b, c, σ, KN, KX, KR => match c with
    | .seq c d => den P n a c σ (fun σ => den P n b d σ KN KX KR) KX KR
    | _ => nope
  | .cond a b, c, σ, KN, KX, KR => match c with
    | .cond x c d => match ev σ x with
      | some (.bool t) => ifB t (den P n a c σ KN KX KR) (den P n b d σ KN KX KR)
      | _ => nope
    | _ => nope
  | .block a, c, σ, KN, KX, KR => match c with
    | .block i c => den P n a c σ KN (fun j σ => match Nat.beq j i with
      | true => KN σ
      | false => KX j σ) KR
    | _ => nope
  | .loop l a, c, σ, _, KX, KR => match c with
    | .loop c => appE l (loopT (flat (shs l)) fun K => kFn (flat (shs l)) fun vs => den P n a c (encE l (writes c) σ vs) (fun σ => appE l K σ) KX KR) σ
    | _ => nope
  | .join l a b, c, σ, KN, KX, KR => match c with
    | .seq c d => joinT (flat (shs l)) (fun M => den P n a c σ (fun σ => appE l M σ) KX KR) (kFn (flat (shs l)) fun vs => den P n b d (encE l (writes c) σ vs) KN KX KR)
    | _ => nope
  | .draw N s, c, σ, KN, _, _ => match c with
    | .region _ ops true => drawT fun S => denD P n ops.toList s (some (N, S)) σ KN
    | _ => nope
/-- What a function hands back. -/
def resD (P : Program) : List ResultVar → List Sh → Env → (List Value → PP) → PP
  | [], [], _, K => K []
  | .tmp t :: r, _ :: ss, σ, K => match lk σ t with
    | some v => resD P r ss σ fun vs => K (v :: vs)
    | none => nope
  | .cell a t :: r, _ :: ss, σ, K => match lk σ a with
    | some (.pointer (some ad)) => match shOf P t with
      | some sh => fun h => ldT (fun p => p h) ad sh (kFn sh.flat fun vs => resD P r ss σ fun us => K (regroup sh vs :: us)) h
      | none => nope
    | _ => nope
  | _, _, _, _ => nope
def retE (P : Program) (rs : List ResultVar) (l : List Sh) (Q : Fn (flat l)) (σ : Env) : PP :=
  resD P rs l σ fun us => match ungroup l us with
    | some vs => appV (flat l) Q vs
    | none => nope
def argsE : Nat → List Value → Env
  | _, [] => []
  | i, v :: r => (i, v) :: argsE (i + 1) r
/-- A function's body. -/
def denF (P : Program) (fn : Func) (ann : Ann) (args : List Value) (l : List Sh) (Q : Fn (flat l)) : PP :=
  match fn.body with
  | some c => den P fn.ntmps ann c (argsE 0 args) (retE P fn.results.toList l Q) (fun _ _ => nope) (retE P fn.results.toList l Q)
  | none => nope
end Go.Shal
end
section
namespace Go.Shal
open Go
def ld (s : Sc) (a : Addr) (K : s.T → PP) : PP := fun h => ∃ x : s.T, hcell h a = some (s.inj x) ∧ K x h
def ldG (S : PP) (s : Sc) (a : Addr) (K : s.T → PP) : PP := fun h => ∃ x : s.T, always S (fun h' => hcell h' a = some (s.inj x)) ∧ K x h
def lds (l : List Sc) (a : Addr) (Q : Fn l) : PP := fun h => ldsT (fun p => p h) a l 0 Q h
def ldsG (S : PP) (l : List Sc) (a : Addr) (Q : Fn l) : PP := ldsT (always S) a l 0 Q
def bytesP (p : Option Addr) (n : Nat) (K : Bytes → PP) : PP := fun h => ∃ l : Bytes, hbytes h p n l ∧ K l h
def guardP (c : Prop) (K : PP) : PP := fun h => c ∧ K h
def ifaceP (v1 v2 : Value) (K : Bool → PP) : PP := fun h => ∃ b, ifaceEq v1 v2 = some b ∧ K b h
def funcP (v1 v2 : Value) (K : Bool → PP) : PP := fun h => ∃ b, funcEq v1 v2 = some b ∧ K b h
def seqP (P : Program) (t : TypeId) (v1 v2 : Value) (K : Bool → PP) : PP := fun h => ∃ b, SEq P t v1 v2 b ∧ K b h
def atS (s : Bytes) (i : Int) (K : UInt8 → PP) : PP := fun h => ∃ b : UInt8, (0 ≤ i ∧ s[i.toNat]? = some b) ∧ K b h
def lookS (s : Sc) (z : s.T) (m : Option Nat) (k : Bytes) (K : s.T → Bool → PP) : PP := fun h => lookP (fun p => p h) s z m k K h
def entryP (a : Addr) (K : Bytes → Option Addr → PP) : PP := fun h => entryMP (fun p => p h) a .ptr K h
def xorI (k : IntKind) (n : Int) : Int := k.wrap (BitVec.ofInt k.bits (if k.signed then -1 else k.max) ^^^ BitVec.ofInt k.bits n).toNat
def andI (k : IntKind) (x y : Int) : Int := k.wrap (BitVec.ofInt k.bits x &&& BitVec.ofInt k.bits y).toNat
def orI (k : IntKind) (x y : Int) : Int := k.wrap (BitVec.ofInt k.bits x ||| BitVec.ofInt k.bits y).toNat
def xor2I (k : IntKind) (x y : Int) : Int := k.wrap (BitVec.ofInt k.bits x ^^^ BitVec.ofInt k.bits y).toNat
end Go.Shal
end
section
namespace Go.Shal
open Go
/-- Functions with a body are entered at a call. -/
def CallOK (P : Program) : Prop := ∀ f fn, P.funcs[f]? = some fn → fn.body.isSome = true → ∀ args w, (callFunc f args).run P w = .ok (.enter f args) w
theorem callFunc_ok {P : Program} (h : (P.funcs.all fun fn => fn.body.isNone || !(fn.name == "runtime.NumGoroutine")) = true) : CallOK P := by
  intro f fn hf hb args w
  have h1 := Array.all_eq_true_iff_forall_mem.1 h fn (Array.mem_of_getElem? hf)
  have hn : fn.body.isNone = false := by cases hx : fn.body <;> simp_all
  have hq : (fn.name == "runtime.NumGoroutine") = false := by
    rw [hn] at h1; simpa using h1
  unfold callFunc
  simp only [Sem.run_bind, run_program, Result.andThen_ok, hf, hq, hn, Bool.false_eq_true, if_false, Sem.run_pure]
theorem callT_ogo {P : Program} {f : FuncId} {args : Array Value} {l : List Sh} {K : Value → PP} {w : World}
    (h : callT P f args l (kFn (flat l) fun us => K (retVal (group l us))) w.heap) : Calls P f args w fun e w' => ∃ v, e = .returned v ∧ Beh w K v w' := by
  refine (h w rfl).mono fun e w' ⟨hs, hx⟩ => ?_
  obtain ⟨t, he, hk⟩ := exT_elim _ _ _ _ hx
  rw [kFn_unc] at hk
  exact ⟨_, he, hs, hk⟩
theorem opC_sound {P : Program} (hc : CallOK P) {σ : Env} {o : Oper} {K : Value → PP} {n : Nat} {a : Act} (ha : Agrees n σ a) {w : World} (hh : opC P σ o K w.heap) : OGo P o a w (Beh w K) := by
  obtain ⟨dst, op, type, pos, after, guard⟩ := o
  unfold opC at hh
  cases op <;> (try dsimp only at hh) <;> try exact hh.elim
  rename_i c
  obtain ⟨callee, args, argTypes⟩ := c
  cases callee <;> (try dsimp only at hh) <;> try exact hh.elim
  rename_i x
  cases hv : evs σ args.toList with
  | none => simp only [hv] at hh; exact hh.elim
  | some vs =>
    simp only [hv] at hh
    have ea : args.map a.eval = vs.toArray := by rw [← ha.evs hv, ← Array.toList_map]
    have hx : (∃ f fn shs, x = .func f ∧ P.funcs[f]? = some fn ∧ fn.body.isSome = true ∧ callT P f vs.toArray shs (kFn (flat shs) fun us => K (retVal (group shs us))) w.heap) ∨
        (∃ v l, ev σ x = some v ∧ callV P v vs.toArray l (kFn (flat l) fun us => K (retVal (group l us))) w.heap) := by
      have hval : (match ev σ x with
          | some v => match resOf P type with
            | some l => callV P v vs.toArray l (kFn (flat l) fun us => K (retVal (group l us)))
            | none => nope
          | none => nope) w.heap → ∃ v l, ev σ x = some v ∧ callV P v vs.toArray l (kFn (flat l) fun us => K (retVal (group l us))) w.heap := by
        intro hh
        cases hev : ev σ x with
        | none => simp only [hev] at hh; exact hh.elim
        | some v =>
          simp only [hev] at hh
          cases hr : resOf P type with
          | none => simp only [hr] at hh; exact hh.elim
          | some l => simp only [hr] at hh; exact ⟨v, l, rfl, hh⟩
      cases x with
      | func f =>
        left
        dsimp only at hh
        cases hf : P.funcs[f]? with
        | none => simp only [hf] at hh; exact hh.elim
        | some fn =>
          simp only [hf] at hh
          cases hb : fn.body with
          | none => simp only [hb] at hh; exact hh.elim
          | some b =>
            simp only [hb] at hh
            cases hs : shsOf P fn.resultTypes.toList with
            | none => simp only [hs] at hh; exact hh.elim
            | some l => simp only [hs] at hh; exact ⟨f, fn, l, rfl, hf, by rw [hb]; rfl, hh⟩
      | tmp t => exact .inr (hval hh)
      | const u => exact .inr (hval hh)
      | global g => exact .inr (hval hh)
    unfold OGo
    have hexec : execOp a.eval ⟨dst, .call ⟨.value x, args, argTypes⟩, type, pos, after, guard⟩ = (do let d ← resolve a.eval ⟨.value x, args, argTypes⟩ type; invoke d.target d.args) := rfl
    rw [hexec]
    unfold resolve
    dsimp only
    rw [ea]
    rcases hx with ⟨f, fn, l, rfl, hf, hb, hk⟩ | ⟨v, l, hev, f, first, cap, fn, rfl, hf, hb, hk⟩
    · simp only [Act.eval, Deferred.ofValue, Sem.run_bind, Sem.run_pure, Result.andThen_ok, invoke, Array.empty_append, Array.append_empty, hc f fn hf hb]
      exact callT_ogo hk
    · rw [ha.ev hev]
      simp only [Deferred.ofValue, Sem.run_bind, Sem.run_pure, Result.andThen_ok, invoke, hc f fn hf hb]
      exact callT_ogo hk
theorem opD_sound {P : Program} (hc : CallOK P) {σ : Env} {o : Oper} {K : Value → PP} {n : Nat} {a : Act} (ha : Agrees n σ a) {w : World} (hh : opD P σ o K w.heap) : OGo P o a w (Beh w K) := by
  unfold opD at hh
  cases hk : kindOf P o with
  | r =>
    simp only [hk] at hh
    obtain ⟨v, hv, hkv⟩ := opR_sound (rd := fun p => p w.heap) ha hh
    unfold OGo
    rw [hv w (fun p hp => hp)]
    exact ⟨Same.refl w, hkv⟩
  | w => simp only [hk] at hh; exact opW_sound ha hh
  | c => simp only [hk] at hh; exact opC_sound hc ha hh
/-! ### Guards and frames -/
theorem Agrees.put {n : Nat} {σ : Env} {a : Act} (h : Agrees n σ a) {dst : Option Tmp} (hf : fitsD n dst = true) (v : Value) : Agrees n (setE σ dst v) (a.put dst v) := by
  cases dst with
  | none => exact h
  | some d =>
    have hd : d < n := by simpa [fitsD, Nat.blt_eq] using hf
    refine ⟨by simpa [Act.put] using h.size, h.defers, fun t u ht => ?_⟩
    simp only [setE, lk] at ht
    cases hb : Nat.beq d t with
    | true =>
      rw [hb] at ht
      cases ht
      have : d = t := Nat.eq_of_beq_eq_true hb
      subst this
      refine ⟨?_, hd⟩
      simp [Act.put, Array.getD_eq_getD_getElem?, h.size, hd]
    | false =>
      rw [hb] at ht
      have hne : d ≠ t := Nat.ne_of_beq_eq_false hb
      obtain ⟨h1, h2⟩ := h.at_ t u ht
      refine ⟨?_, h2⟩
      rw [← h1]
      simp [Act.put, Array.getD_eq_getD_getElem?, hne]
/-- The same look-ups but for some temporaries. -/
def Keeps (W : List Nat) (σ σ' : Env) : Prop := ∀ t, t ∉ W → lk σ' t = lk σ t
theorem Keeps.refl (W : List Nat) (σ : Env) : Keeps W σ σ := fun _ _ => rfl
theorem Keeps.trans {W W' : List Nat} {a b c : Env} (h : Keeps W a b) (k : Keeps W' b c) : Keeps (W ++ W') a c := fun t ht => by
  rw [List.mem_append, not_or] at ht
  rw [k t ht.2, h t ht.1]
theorem Keeps.mono {W W' : List Nat} {a b : Env} (h : Keeps W a b) (hw : ∀ t, t ∈ W → t ∈ W') : Keeps W' a b := fun t ht => h t fun h' => ht (hw t h')
theorem lk_set_same {σ : Env} {t : Nat} {v : Value} (h : lk σ t = some v) (u : Nat) : lk ((t, v) :: σ) u = lk σ u := by
  simp only [lk]
  cases hb : Nat.beq t u with
  | true => rw [← Nat.eq_of_beq_eq_true hb, h]
  | false => rfl
theorem Agrees.same {n : Nat} {σ σ' : Env} {a : Act} (h : Agrees n σ a) (hs : ∀ t, lk σ' t = lk σ t) : Agrees n σ' a := ⟨h.size, h.defers, fun t v ht => h.at_ t v (by rw [← hs t]; exact ht)⟩
theorem Agrees.get? {n : Nat} {σ : Env} {a : Act} (h : Agrees n σ a) {t : Nat} {v : Value} (ht : lk σ t = some v) : a.tmps[t]? = some v := by
  obtain ⟨h1, h2⟩ := h.at_ t v ht
  have : t < a.tmps.size := by rw [h.size]; exact h2
  rw [Array.getElem?_eq_getElem this]
  rw [Array.getD_eq_getD_getElem?, Array.getElem?_eq_getElem this] at h1
  exact congrArg some h1
def boolOf : Value → Option Bool
  | .bool b => some b
  | _ => none
theorem guard_sound {n : Nat} {ops : Array Oper} {σ : Env} {o : Oper} {go skip : Env → PP} {a : Act} {h : Heap} (ha : Agrees n σ a) (hh : guardD ops.toList σ o go skip h) :
    (Region.wanted o (yielded ops a.tmps) = true ∧ ∃ σ', (∀ t, lk σ' t = lk σ t) ∧ go σ' h) ∨ (Region.wanted o (yielded ops a.tmps) = false ∧ ∃ σ', (∀ t, lk σ' t = lk σ t) ∧ skip σ' h) := by
  unfold guardD at hh
  cases hg : o.guard with
  | none =>
    rw [hg] at hh
    exact .inl ⟨by simp [Region.wanted, hg], σ, fun _ => rfl, hh⟩
  | some jw =>
    obtain ⟨j, want⟩ := jw
    rw [hg] at hh
    dsimp only at hh
    cases hj : ops.toList[j]? with
    | none => simp only [hj] at hh; exact hh.elim
    | some oj =>
      simp only [hj] at hh
      cases hd : oj.dst with
      | none => simp only [hd] at hh; exact hh.elim
      | some t =>
        simp only [hd] at hh
        have hj' : ops[j]? = some oj := by simpa using hj
        cases hl : lk σ t with
        | none => simp only [hl] at hh; exact hh.elim
        | some v =>
          simp only [hl] at hh
          have hy : yielded ops a.tmps j = boolOf v := by
            unfold yielded
            simp only [hj', Option.bind_some, hd, ha.get? hl]
            cases v <;> rfl
          have hw : Region.wanted o (yielded ops a.tmps) = (boolOf v == some want) := by
            unfold Region.wanted
            rw [hg]
            dsimp only
            rw [hy]
          cases v <;> (try dsimp only at hh) <;> try exact hh.elim
          case bool b =>
            cases want
            · cases b
              · exact .inl ⟨by rw [hw]; rfl, _, lk_set_same hl, hh⟩
              · exact .inr ⟨by rw [hw]; rfl, _, lk_set_same hl, hh⟩
            · cases b
              · exact .inr ⟨by rw [hw]; rfl, _, lk_set_same hl, hh⟩
              · exact .inl ⟨by rw [hw]; rfl, _, lk_set_same hl, hh⟩
          case tuple vs =>
            exact .inr ⟨by rw [hw]; cases want <;> rfl, σ, fun _ => rfl, hh⟩
theorem OGo.wp {P : Program} {o : Oper} {a : Act} {w : World} {R : Value → World → Prop} {next : Act → World → Prop} {Q : Exit → Act → World → Prop} (h : OGo P o a w R)
    (hn : ∀ v w', R v w' → next (a.put o.dst v) w') : o.wp P a w next Q := by
  unfold OGo at h
  unfold Oper.wp Oper.upon
  split at h
  · rename_i v w' hr; rw [hr]; exact hn _ _ h
  · rename_i w' hr; rw [hr]; exact hn _ _ h
  · rename_i f args w' hr
    rw [hr]
    exact h.mono fun e w'' ⟨v, he, hR⟩ => by subst he; exact hn _ _ hR
  · exact h.elim
theorem setE_keeps (σ : Env) (dst : Option Tmp) (v : Value) (W : List Nat) (h : ∀ t, dst = some t → t ∈ W) : Keeps W σ (setE σ dst v) := by
  cases dst with
  | none => exact Keeps.refl W σ
  | some d =>
    intro t ht
    simp only [setE, lk]
    cases hb : Nat.beq d t with
    | true => exact absurd (h d rfl) (by rw [Nat.eq_of_beq_eq_true hb]; exact ht)
    | false => rfl
theorem writesO_mem {ops : List Oper} {o : Oper} {t : Nat} (ho : o ∈ ops) (hd : o.dst = some t) : t ∈ writesO ops := by
  induction ops with
  | nil => cases ho
  | cons x r ih =>
    simp only [writesO, List.foldr_cons]
    rcases List.mem_cons.1 ho with rfl | h
    · rw [hd]; exact List.mem_cons_self
    · have := ih h
      cases x.dst with
      | none => exact this
      | some u => exact List.mem_cons_of_mem _ this
/-- One operation of a region. -/
theorem oper_sound {P : Program} (hc : CallOK P) {n : Nat} {ops : Array Oper} {Q : Exit → Act → World → Prop} {i : Nat} {o : Oper} (hi : ops[i]? = some o)
    {σ : Env} {a : Act} {w : World} (ha : Agrees n σ a) {G : Env → Value → PP} {G' : Env → PP} {next : Act → World → Prop}
    (hh : guardD ops.toList σ o (fun σ => opD P σ o fun v => G σ v) G' w.heap)
    (h1 : ∀ σ' v w', (∀ t, lk σ' t = lk σ t) → Same w w' → G σ' v w'.heap → next (a.put o.dst v) w') (h2 : ∀ σ', (∀ t, lk σ' t = lk σ t) → G' σ' w.heap → next (a.put o.dst undef) w) :
    wpOp P ops Q i next a w := by
  unfold wpOp
  rw [hi]
  dsimp only
  rcases guard_sound ha hh with ⟨hw, σ', hs, hk⟩ | ⟨hw, σ', hs, hk⟩
  · rw [if_pos hw]
    exact .inl ((opD_sound hc (ha.same hs) hk).wp fun v w' hb => h1 σ' v w' hs hb.1 hb.2)
  · rw [if_neg (by rw [hw]; simp)]
    exact h2 σ' hs hk
theorem denOps_sound {P : Program} (hc : CallOK P) {n : Nat} {ops : Array Oper} {Q : Exit → Act → World → Prop} : ∀ (r : List Oper) (k : Nat) (σ : Env) (a : Act) (w : World) (K : Env → PP),
    (∀ j, r[j]? = ops.toList[k + j]?) → Agrees n σ a → denOps P n ops.toList r σ K w.heap →
    (∀ σ' a' w', Agrees n σ' a' → Keeps (writesO ops.toList) σ σ' → Same w w' → K σ' w'.heap → Q .normal a' w') → wpOps P ops Q (List.range' k r.length) a w
  | [], _, σ, a, w, _, _, ha, hh, hq => hq σ a w ha (Keeps.refl _ _) (Same.refl w) hh
  | o :: r, k, σ, a, w, K, hr, ha, hh, hq => by
    have h0 : ops[k]? = some o := by have := (hr 0).symm; simpa using this
    simp only [denOps] at hh
    cases hf : fitsD n o.dst with
    | false => rw [hf] at hh; exact hh.elim
    | true =>
      rw [hf] at hh
      dsimp only at hh
      rw [List.length_cons, List.range'_succ, wpOps_cons]
      have hmem : o ∈ ops.toList := by
        have := Array.mem_of_getElem? h0
        simpa using this
      have hrec : ∀ σ' v w', (∀ t, lk σ' t = lk σ t) → Same w w' → denOps P n ops.toList r (setE σ' o.dst v) K w'.heap → wpOps P ops Q (List.range' (k + 1) r.length) (a.put o.dst v) w' := by
        intro σ' v w' hs hsame hk
        refine denOps_sound hc r (k + 1) (setE σ' o.dst v) _ w' K (fun j => ?_) ((ha.same hs).put hf v) hk fun σ'' a' w'' ha' hkp hsm hK => ?_
        · have := hr (j + 1)
          rw [List.getElem?_cons_succ] at this
          rw [this, Nat.add_right_comm, Nat.add_assoc]
        · refine hq σ'' a' w'' ha' ?_ (hsame.trans hsm) hK
          intro t ht
          rw [hkp t ht, setE_keeps σ' o.dst v (writesO ops.toList) (fun u hu => writesO_mem hmem hu) t ht, hs t]
      exact oper_sound hc h0 ha hh (fun σ' v w' hs hsame hk => hrec σ' v w' hs hsame hk) (fun σ' hs hk => hrec σ' undef w hs (Same.refl w) hk)
/-! ### Regions that draw their order -/
section anyN
variable {P : Program} {ops : Array Oper} {Q : Exit → Act → World → Prop} {md : Region.Mode} {S : World → Prop} {N : List Nat}
/-- Whatever order is picked from here on, and S holds till an operation comes that is not of N. -/
def wpAnyN (P : Program) (md : Region.Mode) (ops : Array Oper) (Q : Exit → Act → World → Prop) (S : World → Prop) (N : List Nat) : Nat → Array Bool → Act → World → Prop
  | 0, listed, a, w => Region.ready md ops listed = [] ∧ Q .normal a w
  | fuel + 1, listed, a, w =>
    (Region.ready md ops listed = [] → Q .normal a w) ∧
    ∀ i ∈ Region.ready md ops listed, wpOp P ops Q i (fun a' w' => (memN i N = true ∧ S w' ∧ wpAnyN P md ops Q S N fuel (listed.setIfInBounds i true) a' w') ∨
      (memN i N = false ∧ wpAny P md ops Q fuel (listed.setIfInBounds i true) a' w')) a w
theorem wpAny_of_N : ∀ (fuel : Nat) (listed : Array Bool) (a : Act) (w : World), wpAnyN P md ops Q S N fuel listed a w → wpAny P md ops Q fuel listed a w
  | 0, _, _, _, h => h
  | fuel + 1, _, _, _, h => ⟨h.1, fun i hi => wpOp_mono (fun a' w' h' => by
      rcases h' with h' | h'
      · exact wpAny_of_N fuel _ a' w' h'.2.2
      · exact h'.2) (h.2 i hi)⟩
theorem wpAnyN_first {i : Nat} {oi : Oper} {v : Value} (hi : ops[i]? = some oi) (hsel : ∀ (j : Nat) (o : Oper) cs b, ops[j]? = some o → o.op ≠ .select cs b)
    (hQ : ∀ c a w, Q (.panic c) (a.put oi.dst v) w → Q (.panic c) a w) :
    ∀ (fuel : Nat) (listed : Array Bool) (a : Act) (w : World),
      (∀ j oj, ops[j]? = some oj → j ≠ i → listed.getD j true = false → (∀ e ∈ oj.after, Region.binds md e = true → e.on ≠ i) → oi.apart ops oj = true ∧ memN j N = true) →
      i ∈ Region.ready md ops listed → YieldsIf P ops S oi v a → S w →
      wpAnyN P md ops Q S N fuel (listed.setIfInBounds i true) (a.put oi.dst v) w → wpAnyN P md ops Q S N (fuel + 1) listed a w := by
  have self : ∀ (fuel : Nat) (listed : Array Bool) (a : Act) (w : World), S w → wpAnyN P md ops Q S N fuel (listed.setIfInBounds i true) a w →
      (memN i N = true ∧ S w ∧ wpAnyN P md ops Q S N fuel (listed.setIfInBounds i true) a w) ∨ (memN i N = false ∧ wpAny P md ops Q fuel (listed.setIfInBounds i true) a w) := by
    intro fuel listed a w hS H
    cases hm : memN i N with
    | true => exact .inl ⟨rfl, hS, H⟩
    | false => exact .inr ⟨rfl, wpAny_of_N _ _ _ _ H⟩
  intro fuel
  induction fuel with
  | zero =>
    intro listed a w _ hr hy hS H
    refine ⟨fun h => (by rw [h] at hr; cases hr), fun j hj => ?_⟩
    by_cases hji : j = i
    · subst hji; exact hy.wpOp hi hS (self 0 listed _ w hS H)
    · have := ready_mono hj hji
      rw [H.1] at this
      cases this
  | succ fuel ih =>
    intro listed a w hfree hr hy hS H
    refine ⟨fun h => (by rw [h] at hr; cases hr), fun j hj => ?_⟩
    by_cases hji : j = i
    · subst hji; exact hy.wpOp hi hS (self (fuel + 1) listed _ w hS H)
    · have h1 := H.2 j (ready_mono hj hji)
      obtain ⟨hjun, oj, hoj, hall⟩ := mem_ready.1 hj
      have hnot : ∀ e ∈ oj.after, Region.binds md e = true → e.on ≠ i := fun e he hb heq => by
        have h1 := hall e he hb
        have h0 := (mem_ready.1 hr).1
        rw [heq] at h1
        rcases Nat.lt_or_ge i listed.size with h' | h'
        · simp [h'] at h0 h1; rw [h0] at h1; cases h1
        · simp [Array.getElem?_eq_none h'] at h1
      have hf := hfree j oj hoj hji hjun hnot
      have h2 := wpOp_putIf hoj hf.1 (fun cs b => hsel i oi cs b hi) (fun cs b => hsel j oj cs b hoj) hQ hy h1
      have hfree' : ∀ k ok, ops[k]? = some ok → k ≠ i → (listed.setIfInBounds j true).getD k true = false →
          (∀ e ∈ ok.after, Region.binds md e = true → e.on ≠ i) → oi.apart ops ok = true ∧ memN k N = true := fun k ok hk hki hun hno => by
        refine hfree k ok hk hki ?_ hno
        by_cases hjk : j = k
        · subst hjk; exact hjun
        · rw [getD_set_ne true hjk] at hun; exact hun
      refine wpOp_mono (fun a' w' h3 => ?_) h2
      rcases h3.2 with ⟨hm, hS', h4⟩ | ⟨hm, _⟩
      · refine .inl ⟨hm, hS', ih (listed.setIfInBounds j true) a' w' hfree' (ready_mono hr (Ne.symm hji)) h3.1 hS' ?_⟩
        rw [Array.setIfInBounds_comm _ _ hji]
        exact h4
      · rw [hf.2] at hm; cases hm
/-- An operation that yields its value in whatever world may be taken first, too. -/
theorem wpAnyN_firstL {i : Nat} {oi : Oper} {v : Value} (hi : ops[i]? = some oi) (hsel : ∀ (j : Nat) (o : Oper) cs b, ops[j]? = some o → o.op ≠ .select cs b)
    (hQ : ∀ c a w, Q (.panic c) (a.put oi.dst v) w → Q (.panic c) a w) :
    ∀ (fuel : Nat) (listed : Array Bool) (a : Act) (w : World),
      (∀ j oj, ops[j]? = some oj → j ≠ i → listed.getD j true = false → (∀ e ∈ oj.after, Region.binds md e = true → e.on ≠ i) → oi.apart ops oj = true) →
      i ∈ Region.ready md ops listed → Yields P ops oi v a → S w →
      wpAnyN P md ops Q S N fuel (listed.setIfInBounds i true) (a.put oi.dst v) w → wpAnyN P md ops Q S N (fuel + 1) listed a w := by
  have self : ∀ (fuel : Nat) (listed : Array Bool) (a : Act) (w : World), S w → wpAnyN P md ops Q S N fuel (listed.setIfInBounds i true) a w →
      (memN i N = true ∧ S w ∧ wpAnyN P md ops Q S N fuel (listed.setIfInBounds i true) a w) ∨ (memN i N = false ∧ wpAny P md ops Q fuel (listed.setIfInBounds i true) a w) := by
    intro fuel listed a w hS H
    cases hm : memN i N with
    | true => exact .inl ⟨rfl, hS, H⟩
    | false => exact .inr ⟨rfl, wpAny_of_N _ _ _ _ H⟩
  intro fuel
  induction fuel with
  | zero =>
    intro listed a w _ hr hy hS H
    refine ⟨fun h => (by rw [h] at hr; cases hr), fun j hj => ?_⟩
    by_cases hji : j = i
    · subst hji; exact (hy.yieldsIf (S := S)).wpOp hi hS (self 0 listed _ w hS H)
    · have := ready_mono hj hji
      rw [H.1] at this
      cases this
  | succ fuel ih =>
    intro listed a w hfree hr hy hS H
    refine ⟨fun h => (by rw [h] at hr; cases hr), fun j hj => ?_⟩
    by_cases hji : j = i
    · subst hji; exact (hy.yieldsIf (S := S)).wpOp hi hS (self (fuel + 1) listed _ w hS H)
    · have h1 := H.2 j (ready_mono hj hji)
      obtain ⟨hjun, oj, hoj, hall⟩ := mem_ready.1 hj
      have hnot : ∀ e ∈ oj.after, Region.binds md e = true → e.on ≠ i := fun e he hb heq => by
        have h1 := hall e he hb
        have h0 := (mem_ready.1 hr).1
        rw [heq] at h1
        rcases Nat.lt_or_ge i listed.size with h' | h'
        · simp [h'] at h0 h1; rw [h0] at h1; cases h1
        · simp [Array.getElem?_eq_none h'] at h1
      have hf := hfree j oj hoj hji hjun hnot
      have h2 := wpOp_putIf (S := fun _ => True) hoj hf (fun cs b => hsel i oi cs b hi) (fun cs b => hsel j oj cs b hoj) hQ (hy.yieldsIf) h1
      have hfree' : ∀ k ok, ops[k]? = some ok → k ≠ i → (listed.setIfInBounds j true).getD k true = false →
          (∀ e ∈ ok.after, Region.binds md e = true → e.on ≠ i) → oi.apart ops ok = true := fun k ok hk hki hun hno => by
        refine hfree k ok hk hki ?_ hno
        by_cases hjk : j = k
        · subst hjk; exact hjun
        · rw [getD_set_ne true hjk] at hun; exact hun
      have back : ∀ a', YieldsIf P ops (fun _ => True) oi v a' → Yields P ops oi v a' := fun a' hy' => by
        rcases hy' with ⟨h1, h2⟩ | h1
        · exact .inl ⟨h1, fun w => h2 w trivial⟩
        · exact .inr h1
      refine wpOp_mono (fun a' w' h3 => ?_) h2
      rcases h3.2 with ⟨hm, hS', h4⟩ | ⟨hm, h4⟩
      · refine .inl ⟨hm, hS', ih (listed.setIfInBounds j true) a' w' hfree' (ready_mono hr (Ne.symm hji)) (back a' h3.1) hS' ?_⟩
        rw [Array.setIfInBounds_comm _ _ hji]
        exact h4
      · refine .inr ⟨hm, wpAny_first hi hsel hQ fuel _ a' w' hfree' (ready_mono hr (Ne.symm hji)) (back a' h3.1) ?_⟩
        rw [Array.setIfInBounds_comm _ _ hji]
        exact h4
theorem wpAnyN_done {listed : Array Bool} {a : Act} {w : World} (hr : Region.ready md ops listed = []) (h : Q .normal a w) : ∀ fuel, wpAnyN P md ops Q S N fuel listed a w
  | 0 => ⟨hr, h⟩
  | _ + 1 => ⟨fun _ => h, by rw [hr]; simp⟩
/-- What may come ahead of number i is among N. -/
def freeN (ops : Array Oper) (N : List Nat) (listed : Array Bool) (i : Nat) : Bool :=
  (List.range ops.size).all fun j => j == i || (listed.getD j true || match ops[j]? with
    | some oj => oj.after.any (fun e => Region.binds .any e && e.on == i) || memN j N
    | none => true)
theorem freeN_spec {listed : Array Bool} {i : Nat} (h : freeN ops N listed i = true) (j : Nat) (oj : Oper) (hj : ops[j]? = some oj) (hji : j ≠ i) (hun : listed.getD j true = false)
    (hno : ∀ e ∈ oj.after, Region.binds .any e = true → e.on ≠ i) : memN j N = true := by
  unfold freeN at h
  rw [List.all_eq_true] at h
  have hlt : j < ops.size := by rw [Array.getElem?_eq_some_iff] at hj; exact hj.1
  have := h j (List.mem_range.2 hlt)
  rw [hj, hun] at this
  simp only [Bool.or_eq_true, beq_iff_eq, hji, false_or, Bool.false_eq_true] at this
  rcases this with h1 | h1
  · rw [Array.any_eq_true] at h1
    obtain ⟨k, hk, h2⟩ := h1
    simp only [Bool.and_eq_true, beq_iff_eq] at h2
    exact absurd h2.2 (hno _ (Array.getElem_mem hk) h2.1)
  · exact h1
/-- What is to be shown at a place of the region. -/
def wpHeld (P : Program) (ops : Array Oper) (Q : Exit → Act → World → Prop) (m : Held) (fuel : Nat) (listed : Array Bool) (a : Act) (w : World) : Prop :=
  match m with
  | some (N, S) => wpAnyN P .any ops Q (fun w => S w.heap) N fuel listed a w
  | none => wpAny P .any ops Q fuel listed a w
def heldNow (m : Held) (h : Heap) : Prop :=
  match m with
  | some (_, S) => S h
  | none => True
/-- What an operation is to leave. -/
def heldBehind (P : Program) (ops : Array Oper) (Q : Exit → Act → World → Prop) (m : Held) (i : Nat) (fuel : Nat) (listed : Array Bool) : Act → World → Prop := fun a' w' =>
  match m with
  | some (N, S) => (memN i N = true ∧ S w'.heap ∧ wpAnyN P .any ops Q (fun w => S w.heap) N fuel (listed.setIfInBounds i true) a' w') ∨ (memN i N = false ∧ wpAny P .any ops Q fuel (listed.setIfInBounds i true) a' w')
  | none => wpAny P .any ops Q fuel (listed.setIfInBounds i true) a' w'
def freeHeld (ops : Array Oper) (m : Option (List Nat)) (listed : Array Bool) (i : Nat) : Bool :=
  match m with
  | some N => freeN ops N listed i
  | none => true
theorem wpHeld_take {m : Held} {i : Nat} {oi : Oper} {v : Value} {fuel : Nat} {listed : Array Bool} {a : Act} {w : World} (hi : ops[i]? = some oi)
    (hs : Region.noSelect ops = true) (hf : Region.free .any ops listed i = true) (hn : freeHeld ops (m.map (·.1)) listed i = true) (hr : (Region.ready .any ops listed).contains i = true)
    (hQ : ∀ c a w, Q (.panic c) (a.put oi.dst v) w → Q (.panic c) a w) (hy : YieldsIf P ops (fun w => heldNow m w.heap) oi v a) (hS : heldNow m w.heap)
    (h : wpHeld P ops Q m fuel (listed.setIfInBounds i true) (a.put oi.dst v) w) : wpHeld P ops Q m (fuel + 1) listed a w := by
  cases m with
  | some NS =>
    obtain ⟨N, S⟩ := NS
    exact wpAnyN_first hi (Region.noSelect_spec hs) hQ fuel listed a w (fun j oj hj hji hun hno => ⟨Region.free_spec hi hf j oj hj hji hun hno, freeN_spec hn j oj hj hji hun hno⟩) (by simpa using hr) hy hS h
  | none =>
    refine wpAny_take hi hs hf hr hQ ?_ h
    rcases hy with ⟨hw, hv⟩ | ⟨hw, hv⟩
    · exact .inl ⟨hw, fun w => hv w trivial⟩
    · exact .inr ⟨hw, hv⟩
theorem wpHeld_takeL {m : Held} {i : Nat} {oi : Oper} {v : Value} {fuel : Nat} {listed : Array Bool} {a : Act} {w : World} (hi : ops[i]? = some oi)
    (hs : Region.noSelect ops = true) (hf : Region.free .any ops listed i = true) (hr : (Region.ready .any ops listed).contains i = true)
    (hQ : ∀ c a w, Q (.panic c) (a.put oi.dst v) w → Q (.panic c) a w) (hy : Yields P ops oi v a) (hS : heldNow m w.heap)
    (h : wpHeld P ops Q m fuel (listed.setIfInBounds i true) (a.put oi.dst v) w) : wpHeld P ops Q m (fuel + 1) listed a w := by
  cases m with
  | some NS => exact wpAnyN_firstL hi (Region.noSelect_spec hs) hQ fuel listed a w (Region.free_spec hi hf) (by simpa using hr) hy hS h
  | none => exact wpAny_take hi hs hf hr hQ hy h
theorem wpHeld_done {m : Held} {listed : Array Bool} {a : Act} {w : World} (hr : Region.ready .any ops listed = []) (h : Q .normal a w) (fuel : Nat) : wpHeld P ops Q m fuel listed a w := by
  cases m with
  | some NS => exact wpAnyN_done hr h fuel
  | none => exact wpAny_done hr h fuel
theorem wpHeld_all {m : Held} {rs : List Nat} {fuel : Nat} {listed : Array Bool} {a : Act} {w : World} (hr : Region.ready .any ops listed = rs) (hne : rs ≠ [])
    (h : ∀ i ∈ rs, wpOp P ops Q i (heldBehind P ops Q m i fuel listed) a w) : wpHeld P ops Q m (fuel + 1) listed a w := by
  cases m with
  | some NS => exact ⟨fun h0 => absurd (hr ▸ h0) hne, hr ▸ h⟩
  | none => exact wpAny_all hr hne h
theorem wp_region_N {id : Nat} {a : Act} {w : World} {S : PP} (hm : P.follows .mixedOrders = true)
    (h : wpHeld P ops Q (some (N, S)) ops.size (Array.replicate ops.size false) a { w with drawn := w.drawn + 1 }) : (Code.region id ops true).wp P Q a w :=
  wp_region_any hm (wpAny_of_N _ _ _ _ h)
theorem behind_elim {m : Held} {i : Nat} {K : Held → PP} {h : Heap} (hh : m.behind i K h) : ∃ m' : Held, K m' h ∧ heldNow m' h ∧
    ((∃ N S, m = some (N, S) ∧ m' = m ∧ memN i N = true) ∨ (∃ N S, m = some (N, S) ∧ m' = none ∧ memN i N = false) ∨ (m = none ∧ m' = none)) := by
  cases m with
  | none => exact ⟨none, hh, trivial, .inr (.inr ⟨rfl, rfl⟩)⟩
  | some NS =>
    obtain ⟨N, S⟩ := NS
    unfold Held.behind at hh
    dsimp only at hh
    cases hm : memN i N with
    | true => rw [hm] at hh; exact ⟨some (N, S), hh.2, hh.1, .inl ⟨N, S, rfl, rfl, hm⟩⟩
    | false => rw [hm] at hh; exact ⟨none, hh, trivial, .inr (.inl ⟨N, S, rfl, rfl, hm⟩)⟩
end anyN
/-- Does an operation read memory? -/
def readsO (o : Oper) : Bool :=
  match o.op with
  | .load _ _ => true
  | .convert _ _ _ => true
  | _ => false
theorem opR_rd {P : Program} {σ : Env} {o : Oper} {rd rd' : PP → Prop} {K : Value → PP} (h : readsO o = false) : opR P σ o rd K = opR P σ o rd' K := by
  obtain ⟨dst, op, type, pos, after, guard⟩ := o
  cases op <;> first | rfl | cases h
def ids : Sched → List Nat
  | .alt i _ r => i :: ids r
  | _ => []
/-- Is a way of going through a region one that serves for all orders? -/
def okS (ops : Array Oper) : Sched → Bool → Option (List Nat) → Nat → Array Bool → Bool
  | .done, b, _, _, listed => !b && (Region.ready .any ops listed).isEmpty
  | .none, b, _, _, _ => b
  | .take i r, b, m, fuel, listed => !b && match fuel with
    | 0 => false
    | f + 1 => Region.free .any ops listed i && (((match ops[i]? with
      | some o => !readsO o
      | none => true) || freeHeld ops m listed i) && ((Region.ready .any ops listed).contains i && okS ops r false m f (listed.setIfInBounds i true)))
  | .alt i s r, b, m, fuel, listed => match fuel with
    | 0 => false
    | f + 1 => (b || (i :: ids r == Region.ready .any ops listed)) && (okS ops s false (match m with
      | some N => match memN i N with
        | true => some N
        | false => none
      | none => none) f (listed.setIfInBounds i true) && okS ops r true m (f + 1) listed)
theorem denD_alts {P : Program} (hc : CallOK P) {n : Nat} {ops : Array Oper} {Q : Exit → Act → World → Prop} {w0 : World} {σ0 : Env} {K : Env → PP}
    (hq : ∀ σ' a' w', Agrees n σ' a' → Keeps (writesO ops.toList) σ0 σ' → Same w0 w' → K σ' w'.heap → Q .normal a' w') (hp : ∀ c a w, ¬ Q (.panic c) a w) (hns : Region.noSelect ops = true) :
    ∀ (sc : Sched) (b : Bool) (m : Held) (fuel : Nat) (listed : Array Bool) (σ : Env) (a : Act) (w : World), okS ops sc b (m.map (·.1)) fuel listed = true → Agrees n σ a → Keeps (writesO ops.toList) σ0 σ → Same w0 w →
      heldNow m w.heap → denD P n ops.toList sc m σ K w.heap →
      (b = false → wpHeld P ops Q m fuel listed a w) ∧
      (b = true → ∀ f, fuel = f + 1 → ∀ i ∈ ids sc, wpOp P ops Q i (heldBehind P ops Q m i f listed) a w) := by
  intro sc
  induction sc with
  | done =>
    intro b m fuel listed σ a w ho ha hk hs hS hh
    simp only [okS, Bool.and_eq_true, Bool.not_eq_true'] at ho
    obtain ⟨rfl, hr⟩ := ho
    refine ⟨fun _ => ?_, fun h => by cases h⟩
    exact wpHeld_done (by simpa using hr) (hq σ a w ha hk hs hh) fuel
  | none =>
    intro b m fuel listed σ a w ho ha hk hs hS hh
    simp only [okS] at ho
    subst ho
    exact ⟨(fun h => by cases h), fun _ f _ i hi => by simp [ids] at hi⟩
  | take i r ih =>
    intro b m fuel listed σ a w ho ha hk hs hS hh
    simp only [okS, Bool.and_eq_true, Bool.not_eq_true'] at ho
    obtain ⟨rfl, ho⟩ := ho
    refine ⟨fun _ => ?_, fun h => by cases h⟩
    cases fuel with
    | zero => cases ho
    | succ f =>
      dsimp only at ho
      simp only [Bool.and_eq_true] at ho
      obtain ⟨hfree, hfreeN, hready, hrest⟩ := ho
      simp only [denD] at hh
      cases hi : ops.toList[i]? with
      | none => simp only [hi] at hh; exact hh.elim
      | some o =>
        simp only [hi] at hh
        have hi' : ops[i]? = some o := by simpa using hi
        have hmem : o ∈ ops.toList := List.mem_of_getElem? hi
        cases hf : fitsD n o.dst with
        | false => simp only [hf] at hh; exact hh.elim
        | true =>
          simp only [hf] at hh
          cases hkd : kindOf P o with
          | w => simp only [hkd] at hh; exact hh.elim
          | c => simp only [hkd] at hh; exact hh.elim
          | r =>
            simp only [hkd] at hh
            have hrec : ∀ σ' v, (∀ t, lk σ' t = lk σ t) → denD P n ops.toList r m (setE σ' o.dst v) K w.heap →
                wpHeld P ops Q m f (listed.setIfInBounds i true) (a.put o.dst v) w := fun σ' v hs' hk' =>
              (ih false m f _ _ _ w hrest ((ha.same hs').put hf v) (fun t ht => by
                rw [setE_keeps σ' o.dst v (writesO ops.toList) (fun u hu => writesO_mem hmem hu) t ht, hs' t, hk t ht]) hs hS hk').1 rfl
            have hrd : ∀ w' : World, heldNow m w'.heap → ∀ p : PP, m.rd p → p w'.heap := fun w' hn p hp => by
              cases m with
              | some NS => exact hp _ hn
              | none => exact hp _ trivial
            rcases guard_sound ha hh with ⟨hw, σ', hs', hk'⟩ | ⟨hw, σ', hs', hk'⟩
            · cases hro : readsO o with
              | true =>
                rw [hi'] at hfreeN
                dsimp only at hfreeN
                rw [hro] at hfreeN
                obtain ⟨v, hv, hkv⟩ := opR_sound (ha.same hs') hk'
                exact wpHeld_take hi' hns hfree (by simpa using hfreeN) hready (fun c a w h => absurd h (hp c _ w)) (.inl ⟨hw, fun w' hS' => hv w' (hrd w' hS')⟩) hS (hrec σ' v hs' hkv)
              | false =>
                rw [opR_rd (rd' := fun p => ∀ h, p h) hro] at hk'
                obtain ⟨v, hv, hkv⟩ := opR_sound (ha.same hs') hk'
                exact wpHeld_takeL hi' hns hfree hready (fun c a w h => absurd h (hp c _ w)) (.inl ⟨hw, fun w' => hv w' (fun p hp => hp _)⟩) hS (hrec σ' v hs' hkv)
            · exact wpHeld_takeL hi' hns hfree hready (fun c a w h => absurd h (hp c _ w)) (.inr ⟨hw, rfl⟩) hS (hrec σ' undef hs' hk')
  | alt i s r ihs ihr =>
    intro b m fuel listed σ a w ho ha hk hs hS hh
    cases fuel with
    | zero => simp [okS] at ho
    | succ f =>
      simp only [okS, Bool.and_eq_true, Bool.or_eq_true] at ho
      obtain ⟨hids, hos, hor⟩ := ho
      simp only [denD] at hh
      cases hi : ops.toList[i]? with
      | none => simp only [hi] at hh; exact hh.elim
      | some o =>
        simp only [hi] at hh
        have hi' : ops[i]? = some o := by simpa using hi
        have hmem : o ∈ ops.toList := List.mem_of_getElem? hi
        cases hf : fitsD n o.dst with
        | false => simp only [hf] at hh; exact hh.elim
        | true =>
          simp only [hf] at hh
          have hboth : guardD ops.toList σ o (fun σ => opD P σ o fun v => m.behind i fun m => denD P n ops.toList s m (setE σ o.dst v) K) (fun σ => m.behind i fun m => denD P n ops.toList s m (setE σ o.dst undef) K) w.heap ∧
              ∀ j ∈ ids r, wpOp P ops Q j (heldBehind P ops Q m j f listed) a w := by
            cases r with
            | none => exact ⟨hh, fun j hj => by simp [ids] at hj⟩
            | done => simp [okS] at hor
            | take j r => simp [okS] at hor
            | alt j s2 r2 => exact ⟨hh.1, (ihr true m (f + 1) listed σ a w hor ha hk hs hS hh.2).2 rfl f rfl⟩
          have hone : wpOp P ops Q i (heldBehind P ops Q m i f listed) a w := by
            have hrec : ∀ σ' v w', (∀ t, lk σ' t = lk σ t) → Same w w' → (m.behind i fun m => denD P n ops.toList s m (setE σ' o.dst v) K) w'.heap →
                heldBehind P ops Q m i f listed (a.put o.dst v) w' := fun σ' v w' hs' hsm hk' => by
              obtain ⟨m', hd, hn, hcase⟩ := behind_elim hk'
              have hgo : okS ops s false (m'.map (·.1)) f (listed.setIfInBounds i true) = true → wpHeld P ops Q m' f (listed.setIfInBounds i true) (a.put o.dst v) w' := fun hok =>
                (ihs false m' f _ _ _ w' hok ((ha.same hs').put hf v) (fun t ht => by
                  rw [setE_keeps σ' o.dst v (writesO ops.toList) (fun u hu => writesO_mem hmem hu) t ht, hs' t, hk t ht]) (hs.trans hsm) hn hd).1 rfl
              rcases hcase with ⟨N, S, rfl, rfl, hm⟩ | ⟨N, S, rfl, rfl, hm⟩ | ⟨rfl, rfl⟩
              · exact .inl ⟨hm, hn, hgo (by simpa [hm] using hos)⟩
              · exact .inr ⟨hm, hgo (by simpa [hm] using hos)⟩
              · exact hgo (by simpa using hos)
            exact oper_sound hc hi' ha hboth.1 hrec (fun σ' hs' hk' => hrec σ' undef w hs' (Same.refl w) hk')
          have hall : ∀ j ∈ ids (.alt i s r), wpOp P ops Q j (heldBehind P ops Q m j f listed) a w := by
            intro j hj
            simp only [ids, List.mem_cons] at hj
            rcases hj with rfl | hj
            · exact hone
            · exact hboth.2 j hj
          refine ⟨fun hb => ?_, fun _ f' hf' => ?_⟩
          · subst hb
            have hready : i :: ids r = Region.ready .any ops listed := by simpa using hids
            exact wpHeld_all hready.symm (by simp) hall
          · cases hf'
            exact hall
/-! ### Code -/
def subN (l : List (Nat × Sh)) (ws : List Nat) : Bool :=
  match l with
  | [] => true
  | (t, _) :: r => memN t ws && subN r ws
def annOK : Ann → Code → Bool
  | .leaf, _ => true
  | .seq a b, .seq c d => annOK a c && annOK b d
  | .cond a b, .cond _ c d => annOK a c && annOK b d
  | .block a, .block _ c => annOK a c
  | .loop l a, .loop c => subN l (writes c) && annOK a c
  | .join l a b, .seq c d => subN l (writes c) && (annOK a c && annOK b d)
  | .draw N s, .region _ ops _ => Region.noSelect ops && okS ops s false (some N) ops.size (Array.replicate ops.size false)
  | _, _ => true
theorem memN_iff (t : Nat) : ∀ l : List Nat, memN t l = true ↔ t ∈ l
  | [] => by simp [memN]
  | u :: r => by
    simp only [memN]
    cases hb : Nat.beq t u with
    | true => simp [Nat.eq_of_beq_eq_true hb]
    | false =>
      have := Nat.ne_of_beq_eq_false hb
      simp [this, memN_iff t r]
theorem subN_mem {l : List (Nat × Sh)} {ws : List Nat} (h : subN l ws = true) {t : Nat} {s : Sh} (ht : (t, s) ∈ l) : t ∈ ws := by
  induction l with
  | nil => cases ht
  | cons x r ih =>
    obtain ⟨u, q⟩ := x
    simp only [subN, Bool.and_eq_true] at h
    rcases List.mem_cons.1 ht with e | e
    · cases e; exact (memN_iff _ _).1 h.1
    · exact ih h.2 e
theorem lk_rmE (ws : List Nat) (t : Nat) : ∀ σ : Env, lk (rmE ws σ) t = if t ∈ ws then none else lk σ t
  | [] => by simp [rmE, lk]
  | (u, v) :: r => by
    simp only [rmE]
    cases hm : memN u ws with
    | true =>
      dsimp only
      rw [lk_rmE ws t r]
      have hu := (memN_iff _ _).1 hm
      simp only [lk]
      cases hb : Nat.beq u t with
      | true => rw [← Nat.eq_of_beq_eq_true hb, if_pos hu, if_pos hu]
      | false => rfl
    | false =>
      dsimp only
      simp only [lk]
      cases hb : Nat.beq u t with
      | true =>
        have e := Nat.eq_of_beq_eq_true hb
        have : ¬ t ∈ ws := by rw [← e, ← memN_iff, hm]; simp
        rw [if_neg this]
      | false => exact lk_rmE ws t r
theorem lk_append (t : Nat) (τ : Env) : ∀ σ : Env, lk (σ ++ τ) t = match lk σ t with
    | some v => some v
    | none => lk τ t
  | [] => rfl
  | (u, v) :: r => by
    simp only [List.cons_append, lk]
    cases hb : Nat.beq u t with
    | true => rfl
    | false => exact lk_append t τ r
theorem lk_zipE {σ : Env} {t : Nat} {v : Value} : ∀ (l : List (Nat × Sh)) (us : List Value), getE σ l = some us → lk (zipE l us) t = some v → lk σ t = some v ∧ ∃ s, (t, s) ∈ l
  | [], us, h, ht => by cases us <;> simp [zipE, lk] at ht
  | (u, s) :: r, us, h, ht => by
    simp only [getE] at h
    split at h
    · rename_i x hx
      split at h
      · rename_i xs hxs
        cases h
        simp only [zipE, lk] at ht
        cases hb : Nat.beq u t with
        | true =>
          rw [hb] at ht
          have e := Nat.eq_of_beq_eq_true hb
          cases ht
          exact ⟨by rw [← e]; exact hx, s, by rw [e]; exact List.mem_cons_self⟩
        | false =>
          rw [hb] at ht
          obtain ⟨h1, q, h2⟩ := lk_zipE r xs hxs ht
          exact ⟨h1, q, List.mem_cons_of_mem _ h2⟩
      · cases h
    · cases h
theorem lk_zipE_none {t : Nat} : ∀ (l : List (Nat × Sh)) (us : List Value), (∀ s, (t, s) ∉ l) → lk (zipE l us) t = none
  | [], us, _ => by cases us <;> rfl
  | (u, s) :: r, [], _ => rfl
  | (u, s) :: r, x :: xs, h => by
    simp only [zipE, lk]
    cases hb : Nat.beq u t with
    | true => exact absurd (by rw [Nat.eq_of_beq_eq_true hb]; exact List.mem_cons_self) (h s)
    | false => exact lk_zipE_none r xs fun q hq => h q (List.mem_cons_of_mem _ hq)
theorem appE_elim {l : List (Nat × Sh)} {F : Fn (flat (shs l))} {σ : Env} {h : Heap} (hh : appE l F σ h) : ∃ us t, getE σ l = some us ∧ group (shs l) (injs (flat (shs l)) t) = us ∧ unc _ F t h := by
  unfold appE at hh
  cases hg : getE σ l with
  | none => rw [hg] at hh; exact hh.elim
  | some us =>
    rw [hg] at hh
    dsimp only at hh
    cases hu : ungroup (shs l) us with
    | none => rw [hu] at hh; exact hh.elim
    | some vs =>
      rw [hu] at hh
      obtain ⟨t, ht, hk⟩ := appV_elim _ _ _ _ hh
      exact ⟨us, t, rfl, by rw [ht]; exact group_ungroup _ _ _ hu, hk⟩
theorem agrees_enc {n : Nat} {σ σ' : Env} {a : Act} {l : List (Nat × Sh)} {ws : List Nat} {vs us : List Value} (ha : Agrees n σ' a) (hk : Keeps ws σ σ') (hg : getE σ' l = some us) (hv : group (shs l) vs = us) :
    Agrees n (encE l ws σ vs) a := by
  refine ⟨ha.size, ha.defers, fun t v ht => ?_⟩
  unfold encE at ht
  rw [hv, lk_append] at ht
  cases hz : lk (zipE l us) t with
  | some u =>
    rw [hz] at ht
    cases ht
    exact ha.at_ t v (lk_zipE l us hg hz).1
  | none =>
    rw [hz] at ht
    dsimp only at ht
    rw [lk_rmE] at ht
    split at ht
    · cases ht
    · rename_i hn
      exact ha.at_ t v (by rw [hk t hn]; exact ht)
theorem keeps_enc {σ : Env} {l : List (Nat × Sh)} {ws : List Nat} {vs : List Value} (hs : subN l ws = true) : Keeps ws σ (encE l ws σ vs) := fun t ht => by
  unfold encE
  rw [lk_append, lk_zipE_none l _ (fun s hm => ht (subN_mem hs hm))]
  dsimp only
  rw [lk_rmE, if_neg ht]
/-- What holds at a code's end. -/
def KPost (n : Nat) (W : List Nat) (σ : Env) (w : World) (KN : Env → PP) (KX : Nat → Env → PP) (KR : Env → PP) : Exit → Act → World → Prop := fun e a w' =>
  Same w w' ∧ ∃ σ', Agrees n σ' a ∧ Keeps W σ σ' ∧ match e with
    | .normal => KN σ' w'.heap
    | .exit i => KX i σ' w'.heap
    | .ret => KR σ' w'.heap
    | _ => False
theorem KPost.mono {n : Nat} {W W' : List Nat} {σ : Env} {w : World} {KN KN' : Env → PP} {KX : Nat → Env → PP} {KR : Env → PP} (hw : ∀ t, t ∈ W → t ∈ W') {e : Exit} {a : Act} {w' : World}
    (h : KPost n W σ w KN KX KR e a w') (hn : e ≠ .normal) : KPost n W' σ w KN' KX KR e a w' := by
  obtain ⟨hs, σ', ha, hk, hh⟩ := h
  refine ⟨hs, σ', ha, hk.mono hw, ?_⟩
  cases e <;> first | exact absurd rfl hn | exact hh
theorem wp_loop_ghost {P : Program} {T : Type} {c : Code} {Q : Exit → Act → World → Prop} (I : T → Act → World → Prop) (μ : T → World → Nat)
    (round : ∀ y a w, I y a w → c.wp P (Exit.then (fun a' w' => ∃ y', I y' a' w' ∧ μ y' w' < μ y w) Q) a w) (y : T) (a : Act) (w : World) (h₀ : I y a w) : (Code.loop c).wp P Q a w := by
  intro b k cs
  have key : ∀ n y a w, μ y w = n → I y a w →
      ∃ e a' w', Q e a' w' ∧ Arrives P (lone (b.at a (.code c :: .inLoop c :: k)) cs w) b k cs e a' w' := by
    intro n
    induction n using Nat.strongRecOn with
    | _ n ih =>
      intro y a w hn hI
      obtain ⟨e, a₁, w₁, hq, harr⟩ := round y a w hI b (.inLoop c :: k) cs
      cases e with
      | normal =>
        obtain ⟨y₁, hI₁, hlt⟩ := hq
        obtain ⟨e₂, a₂, w₂, hq₂, harr₂⟩ := ih (μ y₁ w₁) (hn ▸ hlt) y₁ a₁ w₁ rfl hI₁
        exact ⟨e₂, a₂, w₂, hq₂, .of_steps (Steps.trans harr (.one step_inLoop)) harr₂⟩
      | exit id => exact ⟨_, a₁, w₁, hq, .pass (x := .inLoop c) rfl (fun _ _ => .inl (by simp)) harr⟩
      | goto l => exact ⟨_, a₁, w₁, hq, .pass (x := .inLoop c) rfl (fun _ _ => .inl (by simp)) harr⟩
      | ret => exact ⟨_, a₁, w₁, hq, .pass (x := .inLoop c) rfl (fun _ _ => .inl (by simp)) harr⟩
      | panic ch => exact ⟨_, a₁, w₁, hq, .pass (x := .inLoop c) rfl (fun _ _ => .inl (by simp)) harr⟩
      | outgrown => exact ⟨_, a₁, w₁, hq, .pass (x := .inLoop c) rfl (fun _ _ => .inl (by simp)) harr⟩
  obtain ⟨e, a', w', hq, harr⟩ := key _ y a w rfl h₀
  exact ⟨e, a', w', hq, .of_steps (.one step_loop) harr⟩
theorem den_sound {P : Program} (hc : CallOK P) (hm : P.follows .mixedOrders = true) (n : Nat) : ∀ (x : Ann) (c : Code) (σ : Env) (KN : Env → PP) (KX : Nat → Env → PP) (KR : Env → PP) (a : Act) (w : World),
    annOK x c = true → Agrees n σ a → den P n x c σ KN KX KR w.heap → c.wp P (KPost n (writes c) σ w KN KX KR) a w := by
  intro x
  induction x with
  | leaf =>
    intro c σ KN KX KR a w ho ha hh
    cases c with
    | skip => exact wp_skip ⟨Same.refl w, σ, ha, Keeps.refl _ _, hh⟩
    | exit i => exact wp_exit ⟨Same.refl w, σ, ha, Keeps.refl _ _, hh⟩
    | ret => exact wp_ret ⟨Same.refl w, σ, ha, Keeps.refl _ _, hh⟩
    | region id ops draw =>
      cases draw with
      | true => exact hh.elim
      | false =>
        refine wp_region ?_
        rw [List.range_eq_range']
        have := denOps_sound hc (n := n) (ops := ops) (Q := KPost n (writes (.region id ops false)) σ w KN KX KR) ops.toList 0 σ a w KN (fun j => by simp) ha hh
          (fun σ' a' w' ha' hk hs hK => ⟨hs, σ', ha', hk, hK⟩)
        simpa using this
    | _ => exact hh.elim
  | seq x y ihx ihy =>
    intro c σ KN KX KR a w ho ha hh
    cases c with
    | seq c d =>
      simp only [annOK, Bool.and_eq_true] at ho
      refine wp_seq (wp_mono (ihx c σ _ KX KR a w ho.1 ha hh) ?_)
      intro e a' w' hp
      cases e with
      | normal =>
        obtain ⟨hs, σ', ha', hk, hK⟩ := hp
        refine wp_mono (ihy d σ' KN KX KR a' w' ho.2 ha' hK) ?_
        intro e a'' w'' ⟨hs2, σ'', ha'', hk2, hK2⟩
        exact ⟨hs.trans hs2, σ'', ha'', hk.trans hk2, hK2⟩
      | _ => exact KPost.mono (KN' := KN) (fun t ht => List.mem_append_left _ ht) hp (by simp)
    | _ => exact hh.elim
  | cond x y ihx ihy =>
    intro c σ KN KX KR a w ho ha hh
    cases c with
    | cond v c d =>
      simp only [annOK, Bool.and_eq_true] at ho
      simp only [den] at hh
      cases hv : ev σ v with
      | none => simp only [hv] at hh; exact hh.elim
      | some u =>
        simp only [hv] at hh
        cases u <;> (try dsimp only at hh) <;> try exact hh.elim
        rename_i t
        refine wp_cond (t := t) (ha.ev hv) ?_
        cases t
        · refine wp_mono (ihy d σ KN KX KR a w ho.2 ha hh) fun e a' w' hp => ?_
          obtain ⟨hs, σ', ha', hk, hK⟩ := hp
          exact ⟨hs, σ', ha', hk.mono (fun t ht => List.mem_append_right _ ht), hK⟩
        · refine wp_mono (ihx c σ KN KX KR a w ho.1 ha hh) fun e a' w' hp => ?_
          obtain ⟨hs, σ', ha', hk, hK⟩ := hp
          exact ⟨hs, σ', ha', hk.mono (fun t ht => List.mem_append_left _ ht), hK⟩
    | _ => exact hh.elim
  | block x ihx =>
    intro c σ KN KX KR a w ho ha hh
    cases c with
    | block i c =>
      refine wp_block (wp_mono (ihx c σ _ _ KR a w ho ha hh) fun e a' w' hp => ?_)
      obtain ⟨hs, σ', ha', hk, hK⟩ := hp
      cases e with
      | exit j =>
        simp only [Exit.inBlock]
        dsimp only at hK
        cases hb : Nat.beq j i with
        | true =>
          rw [hb] at hK
          rw [if_pos (Nat.eq_of_beq_eq_true hb)]
          exact ⟨hs, σ', ha', hk, hK⟩
        | false =>
          rw [hb] at hK
          rw [if_neg (Nat.ne_of_beq_eq_false hb)]
          exact ⟨hs, σ', ha', hk, hK⟩
      | _ => exact ⟨hs, σ', ha', hk, hK⟩
    | _ => exact hh.elim
  | loop l x ihx =>
    intro c σ KN KX KR a w ho ha hh
    cases c with
    | loop c =>
      simp only [annOK, Bool.and_eq_true] at ho
      simp only [den] at hh
      obtain ⟨us, t, hg, hgr, hu⟩ := appE_elim hh
      unfold loopT at hu
      rw [unc_cur] at hu
      obtain ⟨I, μ, h0, hround⟩ := hu
      refine wp_loop_ghost (T := Tup (flat (shs l))) (fun y a' w' => Same w w' ∧ Agrees n (encE l (writes c) σ (injs _ y)) a' ∧ unc _ I y w'.heap) (fun y w' => unc _ μ y w'.heap) ?_ t a w
        ⟨Same.refl w, agrees_enc ha (Keeps.refl _ _) hg hgr, h0⟩
      intro y a' w' ⟨hs, ha', hI⟩
      have hb := hround y w'.heap hI
      rw [kFn_unc] at hb
      refine wp_mono (ihx c _ _ KX KR a' w' ho.2 ha' hb) fun e a'' w'' hp => ?_
      obtain ⟨hs2, σ', ha'', hk, hK⟩ := hp
      have hke : Keeps (writes c) σ σ' := fun u hu => by rw [hk u hu, keeps_enc ho.1 u hu]
      cases e with
      | normal =>
        dsimp only at hK
        obtain ⟨us', t', hg', hgr', hu'⟩ := appE_elim hK
        rw [unc_cur] at hu'
        exact ⟨t', ⟨hs.trans hs2, agrees_enc ha'' hke hg' hgr', hu'.1⟩, hu'.2⟩
      | exit i => exact ⟨hs.trans hs2, σ', ha'', hke, hK⟩
      | ret => exact ⟨hs.trans hs2, σ', ha'', hke, hK⟩
      | goto i => exact hK.elim
      | panic i => exact hK.elim
      | outgrown => exact hK.elim
    | _ => exact hh.elim
  | join l x y ihx ihy =>
    intro c σ KN KX KR a w ho ha hh
    cases c with
    | seq c d =>
      simp only [annOK, Bool.and_eq_true] at ho
      obtain ⟨M, hA, hB⟩ := hh
      refine wp_seq (wp_mono (ihx c σ _ KX KR a w ho.2.1 ha hA) ?_)
      intro e a' w' hp
      cases e with
      | normal =>
        obtain ⟨hs, σ', ha', hk, hK⟩ := hp
        dsimp only at hK
        obtain ⟨us, t, hg, hgr, hu⟩ := appE_elim hK
        have hd := hB t w'.heap hu
        rw [kFn_unc] at hd
        refine wp_mono (ihy d _ KN KX KR a' w' ho.2.2 (agrees_enc ha' hk hg hgr) hd) ?_
        intro e a'' w'' ⟨hs2, σ'', ha'', hk2, hK2⟩
        exact ⟨hs.trans hs2, σ'', ha'', (keeps_enc ho.1).trans hk2, hK2⟩
      | _ => exact KPost.mono (KN' := KN) (fun t ht => List.mem_append_left _ ht) hp (by simp)
    | _ => exact hh.elim
  | draw N s =>
    intro c σ KN KX KR a w ho ha hh
    cases c with
    | region id ops draw =>
      cases draw with
      | false => exact hh.elim
      | true =>
        simp only [annOK, Bool.and_eq_true] at ho
        obtain ⟨S, hS, hD⟩ := hh
        refine wp_region_N (S := S) (N := N) hm ?_
        exact (denD_alts hc (w0 := w) (σ0 := σ) (K := KN) (Q := KPost n (writes (.region id ops true)) σ w KN KX KR) (fun σ' a' w' ha' hk hs hK => ⟨hs, σ', ha', hk, hK⟩)
          (fun c a w h => by obtain ⟨_, _, _, _, hf⟩ := h; exact hf) ho.1 s false (some (N, S)) ops.size _ σ a { w with drawn := w.drawn + 1 } ho.2 ha (Keeps.refl _ _) ⟨rfl, rfl, rfl⟩ hS hD).1 rfl
    | _ => exact hh.elim
end Go.Shal
end
section
namespace Go.Shal
open Go
def resVar (tmps : Array Value) : ResultVar → Sem Value
  | .tmp t => pure (tmps.getD t undef)
  | .cell a t => do loadVar t (← asAddr (tmps.getD a undef))
theorem results_eq (fn : Func) (tmps : Array Value) : results fn tmps = (do let vs ← fn.results.mapM (resVar tmps); pure (if h : vs.size = 1 then vs[0] else .tuple vs)) := by
  unfold results
  congr 1
theorem resD_sound {P : Program} {n : Nat} {σ : Env} {a : Act} (ha : Agrees n σ a) : ∀ (rs : List ResultVar) (l : List Sh) (K : List Value → PP) (w : World), resD P rs l σ K w.heap →
    ∃ us, (rs.mapM (m := Sem) (resVar a.tmps)).run P w = .ok us w ∧ K us w.heap
  | [], l, K, w, h => by
    cases l with
    | nil => exact ⟨[], rfl, h⟩
    | cons s l => exact h.elim
  | .tmp t :: r, [], K, w, h => h.elim
  | .cell ad t :: r, [], K, w, h => h.elim
  | .tmp t :: r, s :: l, K, w, h => by
    simp only [resD] at h
    cases hv : lk σ t with
    | none => simp only [hv] at h; exact h.elim
    | some v =>
      simp only [hv] at h
      obtain ⟨us, hu, hk⟩ := resD_sound ha r l _ w h
      refine ⟨v :: us, ?_, hk⟩
      simp only [List.mapM_cons, resVar, Sem.run_bind, Sem.run_pure, Result.andThen_ok, (ha.at_ t v hv).1]
      rw [hu]; rfl
  | .cell ad t :: r, s :: l, K, w, h => by
    simp only [resD] at h
    cases hv : lk σ ad with
    | none => simp only [hv] at h; exact h.elim
    | some v =>
      simp only [hv] at h
      cases v <;> (try dsimp only at h) <;> try exact h.elim
      rename_i p
      cases p <;> (try dsimp only at h) <;> try exact h.elim
      rename_i addr
      cases hs : shOf P t with
      | none => simp only [hs] at h; exact h.elim
      | some sh =>
        simp only [hs] at h
        obtain ⟨v, hld, hk⟩ := ldT_sound (rd := fun p => p w.heap) (h := w.heap) (K := fun v => resD P r l σ fun us => K (v :: us)) hs h
        obtain ⟨us, hu, hk⟩ := resD_sound ha r l _ w hk
        refine ⟨v :: us, ?_, hk⟩
        have e : resVar a.tmps (.cell ad t) = loadVar t addr := by
          show (do loadVar t (← asAddr (a.tmps.getD ad undef)) : Sem Value) = _
          rw [(ha.at_ ad _ hv).1]
          rfl
        rw [List.mapM_cons, Sem.run_bind, e, hld w (fun p hp => hp), Result.andThen_ok, Sem.run_bind, hu]
        rfl
theorem retE_sound {P : Program} {fn : Func} {n : Nat} {σ : Env} {a : Act} (ha : Agrees n σ a) {l : List Sh} {Q : Fn (flat l)} {w : World} (h : retE P fn.results.toList l Q σ w.heap) :
    ∃ v, (results fn a.tmps).run P w = .ok v w ∧ exT (flat l) Q (fun vs => (Ending.returned v) = .returned (retVal (group l vs))) w.heap := by
  obtain ⟨us, hu, hk⟩ := resD_sound ha _ _ _ w h
  cases hg : ungroup l us with
  | none => simp only [hg] at hk; exact hk.elim
  | some vs =>
    simp only [hg] at hk
    obtain ⟨t, ht, hq⟩ := appV_elim _ _ _ _ hk
    refine ⟨retVal us, ?_, exT_intro _ _ _ _ t (by rw [ht, group_ungroup l us vs hg]) hq⟩
    rw [results_eq, Array.mapM_eq_mapM_toList]
    simp only [Sem.run_bind, Sem.run_map, hu, Result.andThen_ok, Sem.run_pure]
    congr 1
    clear hk hu hg
    match us with
    | [] => rfl
    | [v] => rfl
    | v :: u :: r => simp [retVal]
/-- The side conditions of a function's text, as one Bool. -/
def sideOK (fn : Func) (ann : Ann) (k : Nat) : Bool :=
  match fn.body with
  | some c => annOK ann c && Nat.ble k fn.ntmps
  | none => false
theorem argsE_lk : ∀ (vs : List Value) (i t : Nat) (v : Value), lk (argsE i vs) t = some v → i ≤ t ∧ vs[t - i]? = some v
  | [], _, _, _, h => by simp [argsE, lk] at h
  | x :: vs, i, t, v, h => by
    simp only [argsE, lk] at h
    cases hb : Nat.beq i t with
    | true =>
      rw [hb] at h
      have := Nat.eq_of_beq_eq_true hb
      subst this
      cases h
      exact ⟨Nat.le_refl _, by simp⟩
    | false =>
      rw [hb] at h
      obtain ⟨h1, h2⟩ := argsE_lk vs (i + 1) t v h
      exact ⟨by omega, by rw [show t - i = (t - (i + 1)) + 1 from by omega, List.getElem?_cons_succ]; exact h2⟩
theorem call_of_den {P : Program} (hc : CallOK P) (hm : P.follows .mixedOrders = true) {f : FuncId} {fn : Func} (hf : P.funcs[f]? = some fn) {ann : Ann} {args : List Value} {l : List Sh} {Q : Fn (flat l)} {h : Heap}
    (hs : sideOK fn ann args.length = true) (hh : denF P fn ann args l Q h) : callT P f args.toArray l Q h := by
  intro w hw
  subst hw
  unfold sideOK at hs
  unfold denF at hh
  cases hb : fn.body with
  | none => simp only [hb] at hh; exact hh.elim
  | some c =>
    simp only [hb] at hh hs
    rw [Bool.and_eq_true] at hs
    have hle := Nat.le_of_ble_eq_true hs.2
    have ha : Agrees fn.ntmps (argsE 0 args) { tmps := args.toArray ++ Array.replicate (fn.ntmps - args.toArray.size) undef, defers := [] } := by
      refine ⟨by simp; omega, rfl, fun t v ht => ?_⟩
      obtain ⟨_, h2⟩ := argsE_lk args 0 t v ht
      rw [Nat.sub_zero] at h2
      have hlt : t < args.length := by rw [List.getElem?_eq_some_iff] at h2; exact h2.1
      refine ⟨?_, by omega⟩
      rw [Array.getD_eq_getD_getElem?, Array.getElem?_append_left (by simpa using hlt)]
      simp only [List.getElem?_toArray, h2, Option.getD_some]
    refine calls_of_wp hf hb (wp_mono (den_sound hc hm fn.ntmps ann c _ _ _ _ _ w hs.1 ha hh) ?_)
    intro e a' w' ⟨hsame, σ', ha', _, hk⟩
    cases e with
    | normal =>
      obtain ⟨v, hv, hx⟩ := retE_sound ha' hk
      exact ⟨ha'.defers, v, hv, hsame, hx⟩
    | ret =>
      obtain ⟨v, hv, hx⟩ := retE_sound ha' hk
      exact ⟨ha'.defers, v, hv, hsame, hx⟩
    | exit i => exact hk.elim
    | goto i => exact hk.elim
    | panic i => exact hk.elim
    | outgrown => exact hk.elim
end Go.Shal
end

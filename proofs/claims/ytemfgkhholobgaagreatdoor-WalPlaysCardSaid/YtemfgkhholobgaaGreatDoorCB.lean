/- Operations that only read, all of them: 'opR', and that the model's own operations do what it says. That the model's reading operations do what 'opR' says. -/
import Derived.Test.YtemfgkhholobgaaGreatDoorCA
section
namespace Go.Shal
open Go
abbrev Env := List (Nat × Value)
def lk : Env → Nat → Option Value
  | [], _ => none
  | (k, v) :: r, t => match Nat.beq k t with
    | true => some v
    | false => lk r t
def ev (σ : Env) : Operand → Option Value
  | .tmp t => lk σ t
  | .const v => some v
  | .global g => some (.pointer (some ⟨g, 0, none⟩))
  | .func f => some (.func (.func f) #[] #[])
def evs (σ : Env) : List Operand → Option (List Value)
  | [] => some []
  | x :: r => match ev σ x with
    | some v => match evs σ r with
      | some vs => some (v :: vs)
      | none => none
    | none => none
/-- What is known of a frame of n temporaries. -/
structure Agrees (n : Nat) (σ : Env) (a : Act) : Prop where
  size : a.tmps.size = n
  defers : a.defers = []
  at_ : ∀ t v, lk σ t = some v → a.tmps.getD t undef = v ∧ t < n
theorem Agrees.ev {n : Nat} {σ : Env} {a : Act} (h : Agrees n σ a) {x : Operand} {v : Value} (he : Shal.ev σ x = some v) : a.eval x = v := by
  cases x with
  | tmp t => exact (h.at_ t v he).1
  | const u => cases he; rfl
  | global g => cases he; rfl
  | func f => cases he; rfl
theorem Agrees.evs {n : Nat} {σ : Env} {a : Act} (h : Agrees n σ a) : ∀ {xs : List Operand} {vs : List Value}, Shal.evs σ xs = some vs → xs.map a.eval = vs
  | [], _, he => by cases he; rfl
  | x :: r, vs, he => by
    simp only [Shal.evs] at he
    split at he
    · rename_i v hv
      split at he
      · rename_i us hus
        cases he
        simp [h.ev hv, h.evs hus]
      · cases he
    · cases he
def onV (v : Option Value) (K : Value → PP) : PP :=
  match v with
  | some v => K v
  | none => nope
/-- A pointer that is not nil. -/
def nilP (p : Option Addr) (K : Addr → PP) : PP := fun h => ∃ a, p = some a ∧ K a h
/-- The bytes of a slice. -/
def hbytes (h : Heap) (p : Option Addr) (n : Nat) (l : Bytes) : Prop :=
  match p with
  | none => l = []
  | some a => l.length = n ∧ ∀ i v, l[i]? = some v → hcell h (a.add i) = some (.int .u8 (v.toNat : Int))
def convR (P : Program) (rd : PP → Prop) (src dst : TypeId) (v : Value) (K : Value → PP) : PP :=
  match P.underlying src with
  | some (.int _) => match P.underlying dst with
    | some (.int k) => match v with
      | .int _ n => K (.int k (k.wrap n))
      | _ => nope
    | _ => nope
  | some .string => match P.underlying dst with
    | some .string => match v with
      | .string x => K (.string x)
      | _ => nope
    | _ => nope
  | some (.slice e) => match P.underlying dst with
    | some .string => match P.underlying e with
      | some (.int .u8) => match v with
        | .slice p n _ => fun h => ∃ l : Bytes, rd (fun h' => hbytes h' p n l) ∧ K (.string (bs l)) h
        | _ => nope
      | _ => nope
    | _ => nope
  | _ => nope
def unR (op : UnOp) (v : Value) (K : Value → PP) : PP :=
  match op with
  | .not => match v with
    | .bool b => K (.bool (!b))
    | _ => nope
  | .neg => match v with
    | .int k n => K (.int k (k.wrap (0 - n)))
    | _ => nope
  | .xor => match v with
    | .int k n => K (.int k (k.wrap (BitVec.ofInt k.bits (if k.signed then -1 else k.max) ^^^ BitVec.ofInt k.bits n).toNat))
    | _ => nope
  | _ => nope
/-- A bound of a slice expression. -/
def bnd (v : Option Value) (d : Int) : Option Int :=
  match v with
  | none => some d
  | some (.int _ i) => some i
  | some _ => none
def sliceStr (s : Bytes) (lo hi : Int) (K : Bytes → PP) : PP := fun h =>
  (0 ≤ lo ∧ lo ≤ hi ∧ hi ≤ s.length) ∧ K ((s.take hi.toNat).drop lo.toNat) h
def sliceSl (size : Nat) (p : Option Addr) (cap : Nat) (lo hi mx : Int) (K : Option Addr → Nat → Nat → PP) : PP := fun h =>
  (0 ≤ lo ∧ lo ≤ hi ∧ hi ≤ mx ∧ mx ≤ cap) ∧ K (if mx = lo then p else p.map (·.add (lo.toNat * size))) (hi.toNat - lo.toNat) (mx.toNat - lo.toNat) h
def sliceR (P : Program) (t : TypeId) (v : Value) (lo hi mx : Option Value) (K : Value → PP) : PP :=
  match P.underlying t with
  | some .string => match mx with
    | some _ => nope
    | none => match v with
      | .string x => match bnd lo 0 with
        | some l => match bnd hi (x.data.toList.length : Int) with
          | some u => sliceStr x.data.toList l u (fun y => K (.string (bs y)))
          | none => nope
        | none => nope
      | _ => nope
  | some (.slice e) => match v with
    | .slice p n c => match P.info? e with
      | some i => match mx with
        | none => match bnd lo 0 with
          | some l => match bnd hi (n : Int) with
            | some u => sliceSl i.size p c l u (c : Int) (fun q n' c' => K (.slice q n' c'))
            | none => nope
          | none => nope
        | some _ => match hi with
          | none => nope
          | some _ => match bnd lo 0 with
            | some l => match bnd hi 0 with
              | some u => match bnd mx 0 with
                | some m => sliceSl i.size p c l u m (fun q n' c' => K (.slice q n' c'))
                | none => nope
              | none => nope
            | none => nope
      | none => nope
    | _ => nope
  | some (.array n e) => match mx with
    | some _ => nope
    | none => match v with
      | .pointer (some a) => match P.info? e with
        | some i => match bnd lo 0 with
          | some l => match bnd hi (n : Int) with
            | some u => sliceSl i.size (some a) n l u (n : Int) (fun q n' c' => K (.slice q n' c'))
            | none => nope
          | none => nope
        | none => nope
      | _ => nope
  | _ => nope
/-- The i-th of n elements from a on. -/
def idxP (size : Nat) (p : Option Addr) (n : Nat) (i : Int) (K : Addr → PP) : PP := fun h =>
  ∃ a, p = some a ∧ (0 ≤ i ∧ i < n) ∧ K (a.add (i.toNat * size)) h
def indexAddrR (P : Program) (t : TypeId) (v ix : Value) (K : Value → PP) : PP :=
  match ix with
  | .int _ i => match P.underlying t with
    | some (.slice e) => match v with
      | .slice p n _ => match P.info? e with
        | some inf => idxP inf.size p n i (fun a => K (.pointer (some a)))
        | none => nope
      | _ => nope
    | some (.array n e) => match v with
      | .pointer (some a) => match P.info? e with
        | some inf => idxP inf.size (some a) n i (fun a => K (.pointer (some a)))
        | none => nope
      | _ => nope
    | _ => nope
  | _ => nope
def indexR (P : Program) (t : TypeId) (v ix : Value) (K : Value → PP) : PP :=
  match ix with
  | .int _ i => match P.underlying t with
    | some .string => match v with
      | .string x => fun h => ∃ b : UInt8, (0 ≤ i ∧ x.data.toList[i.toNat]? = some b) ∧ K (.int .u8 (b.toNat : Int)) h
      | _ => nope
    | some (.array n e) => match v with
      | .agg cs => match shOf P e with
        | some (.sc s) => match P.info? e with
          | some inf => match Nat.beq inf.size 1 with
            | true => fun h => ∃ x : s.T, (0 ≤ i ∧ i < (n : Int) ∧ cs.toList[i.toNat]? = some (s.inj x)) ∧ K (s.inj x) h
            | false => nope
          | none => nope
        | _ => nope
      | _ => nope
    | _ => nope
  | _ => nope
/-- A part of cells. -/
def partR (P : Program) (t : TypeId) (cs : Array Value) (off : Nat) (K : Value → PP) : PP :=
  match shOf P t with
  | some (.sc _) => match cs.toList[off]? with
    | some v => K v
    | none => nope
  | some (.agg l) => K (.agg ((cs.toList.drop off).take l.length).toArray)
  | none => nope
def fieldR (P : Program) (t : TypeId) (v : Value) (f : Nat) (K : Value → PP) : PP :=
  match P.underlying t with
  | some (.struct fs) => match fs.toList[f]? with
    | some fd => match v with
      | .agg cs => partR P fd.type cs fd.offset K
      | _ => nope
    | none => nope
  | _ => nope
def fieldAddrR (P : Program) (t : TypeId) (v : Value) (f : Nat) (K : Value → PP) : PP :=
  match P.underlying t with
  | some (.struct fs) => match fs.toList[f]? with
    | some fd => match P.info? fd.type with
      | some i => match i.size with
        | 0 => nope
        | _ + 1 => match v with
          | .pointer (some a) => K (.pointer (some (a.add fd.offset)))
          | _ => nope
      | none => nope
    | none => nope
  | _ => nope
def lenR (P : Program) (t : TypeId) (v : Value) (K : Value → PP) : PP :=
  match P.underlying t with
  | some .string => match v with
    | .string x => K (.int .i64 (x.data.toList.length : Int))
    | _ => nope
  | some (.slice _) => match v with
    | .slice _ n _ => K (.int .i64 (n : Int))
    | _ => nope
  | some (.array n _) => K (.int .i64 (n : Int))
  | _ => nope
def capR (P : Program) (t : TypeId) (v : Value) (K : Value → PP) : PP :=
  match P.underlying t with
  | some (.slice _) => match v with
    | .slice _ _ c => K (.int .i64 (c : Int))
    | _ => nope
  | _ => nope
def max2V : Value → Value → Option Value
  | .int k x, .int _ y => some (.int k (if y > x then y else x))
  | _, _ => none
def min2V : Value → Value → Option Value
  | .int k x, .int _ y => some (.int k (if y < x then y else x))
  | _, _ => none
def foldV (f : Value → Value → Option Value) : Value → List Value → Option Value
  | x, [] => some x
  | x, y :: r => match f x y with
    | some z => foldV f z r
    | none => none
def builtR (P : Program) (b : Builtin) (ts : Array TypeId) (vs : List Value) (K : Value → PP) : PP :=
  match b with
  | .len => match ts.toList with
    | t :: _ => match vs with
      | v :: _ => lenR P t v K
      | _ => nope
    | _ => nope
  | .cap => match ts.toList with
    | t :: _ => match vs with
      | v :: _ => capR P t v K
      | _ => nope
    | _ => nope
  | .max => match vs with
    | x :: r => onV (foldV max2V x r) K
    | _ => nope
  | .min => match vs with
    | x :: r => onV (foldV min2V x r) K
    | _ => nope
  | _ => nope
def onO (σ : Env) (x : Option Operand) (K : Option Value → PP) : PP :=
  match x with
  | none => K none
  | some x => match ev σ x with
    | some v => K (some v)
    | none => nope
/-- An operation that only reads; 'rd' says what is read. -/
def opR (P : Program) (σ : Env) (o : Oper) (rd : PP → Prop) (K : Value → PP) : PP :=
  match o.op with
  | .move x => onV (ev σ x) K
  | .assign x => onV (ev σ x) K
  | .pick c a b => match ev σ c with
    | some (.bool t) => ifB t (onV (ev σ a) K) (onV (ev σ b) K)
    | _ => nope
  | .load t x => match ev σ x with
    | some (.pointer (some a)) => match shOf P t with
      | some sh => ldT rd a sh (kFn sh.flat fun vs => K (regroup sh vs))
      | none => nope
    | _ => nope
  | .nilCheck x => match ev σ x with
    | some (.pointer p) => nilP p (fun a => K (.pointer (some a)))
    | _ => nope
  | .binOp op t x y _ => onV (ev σ x) fun v1 => onV (ev σ y) fun v2 => binR P op t (isC x) (isC y) v1 v2 K
  | .unOp op _ x => onV (ev σ x) fun v => unR op v K
  | .convert src dst x => onV (ev σ x) fun v => convR P rd src dst v K
  | .makeInterface t x => match P.underlying t with
    | some (.interface _) => nope
    | none => nope
    | _ => onV (ev σ x) fun v => K (.iface t v)
  | .makeFunc fn first cap => match evs σ first.toList with
    | some vs => match evs σ cap.toList with
      | some us => K (.func fn vs.toArray us.toArray)
      | none => nope
    | none => nope
  | .slice t x lo hi mx => onV (ev σ x) fun v => onO σ lo fun l => onO σ hi fun u => onO σ mx fun m => sliceR P t v l u m K
  | .fieldAddr t x f => onV (ev σ x) fun v => fieldAddrR P t v f K
  | .field t x f => onV (ev σ x) fun v => fieldR P t v f K
  | .indexAddr t x i => onV (ev σ x) fun v => onV (ev σ i) fun w => indexAddrR P t v w K
  | .index t x i => onV (ev σ x) fun v => onV (ev σ i) fun w => indexR P t v w K
  | .extract x i => match ev σ x with
    | some (.tuple vs) => onV (vs.toList[i]?) K
    | _ => nope
  | .call c => match c.callee with
    | .builtin b => match evs σ c.args.toList with
      | some vs => builtR P b c.argTypes vs K
      | none => nope
    | _ => nope
  | _ => nope
end Go.Shal
end
section
namespace Go.Shal
open Go
def ONext (P : Program) (rd : PP → Prop) (s : Sem Next) (v : Value) : Prop := ∀ w : World, (∀ p : PP, rd p → p w.heap) → s.run P w = .ok (.value v) w
theorem RVal.next {P : Program} {rd : PP → Prop} {s : Sem Value} {v : Value} (h : RVal P rd s v) : ONext P rd (do pure (.value (← s))) v := fun w hw => by
  simp only [Sem.run_bind, h w hw, Result.andThen_ok, Sem.run_pure]
theorem onV_elim {v : Option Value} {K : Value → PP} {h : Heap} (hh : onV v K h) : ∃ u, v = some u ∧ K u h := by
  cases v with
  | none => exact hh.elim
  | some u => exact ⟨u, rfl, hh⟩
theorem convert_int {P : Program} {src dst : TypeId} {j k : IntKind} (h1 : P.underlying src = some (.int j)) (h2 : P.underlying dst = some (.int k)) (j' : IntKind) (n : Int) (w : World) :
    (convert src dst (.int j' n)).run P w = .ok (.int k (k.wrap n)) w := by
  unfold convert
  simp only [Sem.run_bind, run_und h1, run_und h2, Result.andThen_ok]
  rfl
theorem convert_str {P : Program} {src dst : TypeId} (h1 : P.underlying src = some .string) (h2 : P.underlying dst = some .string) (x : ByteArray) (w : World) :
    (convert src dst (.string x)).run P w = .ok (.string x) w := by
  unfold convert
  simp only [Sem.run_bind, run_und h1, run_und h2, Result.andThen_ok]
  rfl
theorem foldl_push (l : Bytes) : ∀ s : ByteArray, ((l.map fun b : UInt8 => (b.toNat : Int)).foldl (fun r (n : Int) => r.push (UInt8.ofNat n.toNat)) s) = bs (s.data.toList ++ l) := by
  induction l with
  | nil => intro s; simp [bs]
  | cons b l ih =>
    intro s
    rw [List.map_cons, List.foldl_cons, ih]
    simp [bs, ByteArray.push]
theorem bytesToString_some {P : Program} (a : Addr) (n c : Nat) (l : Bytes) (w : World) (hl : l.length = n) (hc : ∀ i v, l[i]? = some v → hcell w.heap (a.add i) = some (.int .u8 (v.toNat : Int))) :
    (Conv.bytesToString (.slice (some a) n c)).run P w = .ok (.string (bs l)) w := by
  have hload := run_loadCells_list (P := P) (w := w) a (l.map fun b => Value.int .u8 (b.toNat : Int)) (fun j v hj => by
    rw [List.getElem?_map] at hj
    cases hb : l[j]? with
    | none => rw [hb] at hj; simp at hj
    | some b => rw [hb] at hj; simp at hj; rw [← hj]; exact hc j b hb)
  rw [List.length_map, hl] at hload
  rw [run_bytesToString w a n c (l.map fun b : UInt8 => (b.toNat : Int)) (by rw [hload, List.map_map]; rfl), foldl_push]
  rfl
theorem convR_sound {P : Program} {rd : PP → Prop} {src dst : TypeId} {v : Value} {K : Value → PP} {h : Heap} (hh : convR P rd src dst v K h) :
    ∃ u, RVal P rd (convert src dst v) u ∧ K u h := by
  unfold convR at hh
  cases hs : P.underlying src with
  | none => rw [hs] at hh; exact hh.elim
  | some ds =>
    rw [hs] at hh
    cases hd : P.underlying dst with
    | none => rw [hd] at hh; cases ds <;> exact hh.elim
    | some dd =>
      rw [hd] at hh
      cases ds <;> (try dsimp only at hh) <;> try exact hh.elim
      case int =>
        cases dd <;> (try dsimp only at hh) <;> try exact hh.elim
        cases v <;> (try dsimp only at hh) <;> try exact hh.elim
        exact ⟨_, fun w _ => convert_int hs hd _ _ w, hh⟩
      case string =>
        cases dd <;> (try dsimp only at hh) <;> try exact hh.elim
        cases v <;> (try dsimp only at hh) <;> try exact hh.elim
        exact ⟨_, fun w _ => convert_str hs hd _ w, hh⟩
      case slice e =>
        cases dd <;> (try dsimp only at hh) <;> try exact hh.elim
        cases he : P.underlying e with
        | none => rw [he] at hh; exact hh.elim
        | some de =>
          rw [he] at hh
          cases de <;> (try dsimp only at hh) <;> try exact hh.elim
          rename_i k
          cases k <;> (try dsimp only at hh) <;> try exact hh.elim
          cases v <;> (try dsimp only at hh) <;> try exact hh.elim
          rename_i p n c
          obtain ⟨l, hl, hk⟩ := hh
          refine ⟨_, fun w hw => ?_, hk⟩
          rw [run_convert_bytes_string w src dst e p n c hs he hd]
          have hb := hw _ hl
          cases p with
          | none =>
            simp only [hbytes] at hb; subst hb; rfl
          | some a => exact bytesToString_some a n c l w hb.1 hb.2
theorem unR_sound {P : Program} {rd : PP → Prop} {op : UnOp} {v : Value} {K : Value → PP} {h : Heap} (hh : unR op v K h) : ∃ u, RVal P rd (Op.unary op v) u ∧ K u h := by
  unfold unR at hh
  cases op <;> (try dsimp only at hh) <;> try exact hh.elim
  all_goals
    cases v <;> (try dsimp only at hh) <;> try exact hh.elim
    exact ⟨_, fun w _ => rfl, hh⟩
theorem bnd_elim {v : Option Value} {d i : Int} (h : bnd v d = some i) : (v = none ∧ i = d) ∨ ∃ k, v = some (.int k i) := by
  cases v with
  | none => cases h; exact .inl ⟨rfl, rfl⟩
  | some u => cases u <;> simp [bnd] at h; subst h; exact .inr ⟨_, rfl⟩
theorem run_sliceBound {P : Program} {k : IntKind} {i : Int} {y : Nat} {c : BoundsCode} (h0 : 0 ≤ i) (h1 : i ≤ y) (w : World) : (Instr.sliceBound (.int k i) y c).run P w = .ok i.toNat w := by
  unfold Instr.sliceBound
  simp only [asIntOf, Sem.run_bind, Sem.run_pure, Result.andThen_ok, if_pos (show 0 ≤ i ∧ i ≤ (y : Int) from ⟨h0, h1⟩)]
theorem run_sliceBounds {P : Program} (b : Bool) (len cap : Nat) (lo hi mx : Option Value) (l u m : Int) (hm : (mx = none ∧ m = cap) ∨ (∃ k, mx = some (.int k m)))
    (hu : (hi = none ∧ u = len ∧ mx = none) ∨ (∃ k, hi = some (.int k u))) (hl : (lo = none ∧ l = 0) ∨ (∃ k, lo = some (.int k l)))
    (h0 : 0 ≤ l) (h1 : l ≤ u) (h2 : u ≤ m) (h3 : m ≤ cap) (w : World) : (Instr.sliceBounds b len cap lo hi mx).run P w = .ok (l.toNat, u.toNat, m.toNat) w := by
  have e1 : ((m.toNat : Nat) : Int) = m := by omega
  have e2 : ((u.toNat : Nat) : Int) = u := by omega
  unfold Instr.sliceBounds
  rcases hm with ⟨rfl, rfl⟩ | ⟨km, rfl⟩
  · rcases hu with ⟨rfl, rfl, _⟩ | ⟨ku, rfl⟩
    · rcases hl with ⟨rfl, rfl⟩ | ⟨kl, rfl⟩
      · simp
      · simp [run_sliceBound h0 h1]
    · rcases hl with ⟨rfl, rfl⟩ | ⟨kl, rfl⟩
      · simp [run_sliceBound (k := ku) (show 0 ≤ u by omega) h2]
      · simp [run_sliceBound (k := ku) (show 0 ≤ u by omega) h2, run_sliceBound (k := kl) (y := u.toNat) h0 (by omega)]
  · rcases hu with ⟨rfl, rfl, e⟩ | ⟨ku, rfl⟩
    · cases e
    · rcases hl with ⟨rfl, rfl⟩ | ⟨kl, rfl⟩
      · simp [run_sliceBound (k := km) (show 0 ≤ m by omega) h3, run_sliceBound (k := ku) (y := m.toNat) (show 0 ≤ u by omega) (by omega)]
      · simp [run_sliceBound (k := km) (show 0 ≤ m by omega) h3, run_sliceBound (k := ku) (y := m.toNat) (show 0 ≤ u by omega) (by omega), run_sliceBound (k := kl) (y := u.toNat) h0 (by omega)]
theorem bs_extract (x : ByteArray) (l u : Nat) : x.extract l u = bs ((x.data.toList.take u).drop l) := by
  apply ByteArray.ext
  simp [bs, ByteArray.data_extract]
  apply Array.ext'
  simp [Array.toList_extract, List.drop_take]
theorem sliceR_sound {P : Program} {rd : PP → Prop} {t : TypeId} {v : Value} {lo hi mx : Option Value} {K : Value → PP} {h : Heap} (hh : sliceR P t v lo hi mx K h) :
    ∃ u, RVal P rd (Instr.sliceAt t v lo hi mx) u ∧ K u h := by
  unfold sliceR at hh
  cases ht : P.underlying t with
  | none => rw [ht] at hh; exact hh.elim
  | some d =>
    rw [ht] at hh
    cases d <;> (try dsimp only at hh) <;> try exact hh.elim
    case string =>
      cases mx <;> (try dsimp only at hh) <;> try exact hh.elim
      cases v <;> (try dsimp only at hh) <;> try exact hh.elim
      rename_i x
      cases hl : bnd lo 0 with
      | none => rw [hl] at hh; exact hh.elim
      | some l =>
        rw [hl] at hh
        cases hu : bnd hi (x.data.toList.length : Int) with
        | none => simp only [hu] at hh; exact hh.elim
        | some u =>
          simp only [hu] at hh
          obtain ⟨⟨h0, h1, h2⟩, hk⟩ := hh
          have es : x.data.toList.length = x.size := by show x.data.toList.length = x.data.size; simp
          refine ⟨_, fun w _ => ?_, hk⟩
          have hb := run_sliceBounds (P := P) false x.size x.size lo hi none l u x.size (.inl ⟨rfl, rfl⟩)
            ((bnd_elim hu).imp (fun ⟨a, b⟩ => ⟨a, by rw [b, es], rfl⟩) id) (bnd_elim hl) h0 h1 (by omega) (by omega) w
          unfold Instr.sliceAt Instr.slice
          simp only [Sem.run_bind, run_und ht, Result.andThen_ok, Option.isSome_none, Bool.false_eq_true, if_false, Sem.run_pure, hb, bs_extract]
    case slice e =>
      cases v <;> (try dsimp only at hh) <;> try exact hh.elim
      rename_i p n c
      cases hi_ : P.info? e with
      | none => simp only [hi_] at hh; exact hh.elim
      | some inf =>
        simp only [hi_] at hh
        have hsz : ∀ w, (sizeOf e).run P w = .ok inf.size w := fun w => by simp only [sizeOf, Sem.run_bind, run_ti hi_, Result.andThen_ok, Sem.run_pure]
        have key : ∀ l u m : Int, ((mx = none ∧ m = c) ∨ (∃ k, mx = some (.int k m))) → ((hi = none ∧ u = n ∧ mx = none) ∨ (∃ k, hi = some (.int k u))) → ((lo = none ∧ l = 0) ∨ (∃ k, lo = some (.int k l))) →
            sliceSl inf.size p c l u m (fun q n' c' => K (.slice q n' c')) h → ∃ u, RVal P rd (Instr.sliceAt t (.slice p n c) lo hi mx) u ∧ K u h := fun l u m q1 q2 q3 hs => by
          obtain ⟨⟨h0, h1, h2, h3⟩, hk⟩ := hs
          refine ⟨_, fun w _ => ?_, hk⟩
          have hb := run_sliceBounds (P := P) true n c lo hi mx l u m q1 q2 q3 h0 h1 h2 h3 w
          have e3 : (m.toNat = l.toNat) = (m = l) := by apply propext; omega
          unfold Instr.sliceAt Instr.slice
          simp only [Sem.run_bind, run_und ht, Result.andThen_ok, hb, hsz, Sem.run_pure, e3]
        cases mx with
        | none =>
          simp only at hh
          cases hl : bnd lo 0 with
          | none => simp only [hl] at hh; exact hh.elim
          | some l =>
            simp only [hl] at hh
            cases hu : bnd hi (n : Int) with
            | none => simp only [hu] at hh; exact hh.elim
            | some u =>
              simp only [hu] at hh
              exact key l u c (.inl ⟨rfl, rfl⟩) ((bnd_elim hu).imp (fun ⟨a, b⟩ => ⟨a, b, rfl⟩) id) (bnd_elim hl) hh
        | some mv =>
          cases hi with
          | none => exact hh.elim
          | some hv =>
            simp only at hh
            cases hl : bnd lo 0 with
            | none => simp only [hl] at hh; exact hh.elim
            | some l =>
              simp only [hl] at hh
              cases hu : bnd (some hv) 0 with
              | none => simp only [hu] at hh; exact hh.elim
              | some u =>
                simp only [hu] at hh
                cases hm : bnd (some mv) 0 with
                | none => simp only [hm] at hh; exact hh.elim
                | some m =>
                  simp only [hm] at hh
                  exact key l u m ((bnd_elim hm).imp (fun ⟨a, _⟩ => by cases a) id) ((bnd_elim hu).imp (fun ⟨a, _⟩ => by cases a) id) (bnd_elim hl) hh
    case array n e =>
      cases mx <;> (try dsimp only at hh) <;> try exact hh.elim
      cases v <;> (try dsimp only at hh) <;> try exact hh.elim
      rename_i p
      cases p <;> (try dsimp only at hh) <;> try exact hh.elim
      rename_i a
      cases hi_ : P.info? e with
      | none => simp only [hi_] at hh; exact hh.elim
      | some inf =>
        simp only [hi_] at hh
        have hsz : ∀ w, (sizeOf e).run P w = .ok inf.size w := fun w => by simp only [sizeOf, Sem.run_bind, run_ti hi_, Result.andThen_ok, Sem.run_pure]
        cases hl : bnd lo 0 with
        | none => simp only [hl] at hh; exact hh.elim
        | some l =>
          simp only [hl] at hh
          cases hu : bnd hi (n : Int) with
          | none => simp only [hu] at hh; exact hh.elim
          | some u =>
            simp only [hu] at hh
            obtain ⟨⟨h0, h1, h2, h3⟩, hk⟩ := hh
            refine ⟨_, fun w _ => ?_, hk⟩
            have hb := run_sliceBounds (P := P) false n n lo hi none l u n (.inl ⟨rfl, rfl⟩) ((bnd_elim hu).imp (fun ⟨a, b⟩ => ⟨a, b, rfl⟩) id) (bnd_elim hl) h0 h1 h2 (by omega) w
            have e3 : (n = l.toNat) = ((n : Int) = l) := by apply propext; omega
            unfold Instr.sliceAt
            simp only [Sem.run_bind, run_und ht, Result.andThen_ok, Instr.sureAddr, Sem.run_pure, hb, hsz, Int.toNat_natCast, e3]
            split <;> rfl
theorem sizeOf_run {P : Program} {e : TypeId} {inf : TypeInfo} (hi : P.info? e = some inf) (w : World) : (sizeOf e).run P w = .ok inf.size w := by
  simp only [sizeOf, Sem.run_bind, run_ti hi, Result.andThen_ok, Sem.run_pure]
theorem indexAddrR_sound {P : Program} {rd : PP → Prop} {t : TypeId} {v ix : Value} {K : Value → PP} {h : Heap} (hh : indexAddrR P t v ix K h) :
    ∃ u, RVal P rd (Instr.indexAt t v ix) u ∧ K u h := by
  unfold indexAddrR at hh
  cases ix <;> (try dsimp only at hh) <;> try exact hh.elim
  rename_i k i
  cases ht : P.underlying t with
  | none => rw [ht] at hh; exact hh.elim
  | some d =>
    rw [ht] at hh
    cases d <;> (try dsimp only at hh) <;> try exact hh.elim
    case slice e =>
      cases v <;> (try dsimp only at hh) <;> try exact hh.elim
      cases hi_ : P.info? e with
      | none => simp only [hi_] at hh; exact hh.elim
      | some inf =>
        simp only [hi_] at hh
        obtain ⟨a, rfl, hb, hk⟩ := hh
        refine ⟨_, fun w _ => ?_, hk⟩
        unfold Instr.indexAt
        simp only [asIntOf, Sem.run_bind, Sem.run_pure, Result.andThen_ok, run_und ht, if_pos hb, sizeOf_run hi_]
    case array n e =>
      cases v <;> (try dsimp only at hh) <;> try exact hh.elim
      rename_i p
      cases p <;> (try dsimp only at hh) <;> try exact hh.elim
      rename_i a0
      cases hi_ : P.info? e with
      | none => simp only [hi_] at hh; exact hh.elim
      | some inf =>
        simp only [hi_] at hh
        obtain ⟨a, ha, hb, hk⟩ := hh
        cases ha
        refine ⟨_, fun w _ => ?_, hk⟩
        unfold Instr.indexAt
        simp only [asIntOf, Sem.run_bind, Sem.run_pure, Result.andThen_ok, run_und ht, Instr.sureAddr, if_pos hb, sizeOf_run hi_]
theorem part_sc {P : Program} {t : TypeId} {s : Sc} (hs : shOf P t = some (.sc s)) {cs : Array Value} {off : Nat} {v : Value} (hv : cs.toList[off]? = some v) (w : World) :
    (part t cs off).run P w = .ok v w := by
  have hv' : cs[off]? = some v := by simpa using hv
  unfold part
  simp only [Sem.run_bind, isAgg_sc hs, Result.andThen_ok, Bool.false_eq_true, if_false, hv', Sem.run_pure]
theorem part_agg {P : Program} {t : TypeId} {l : List Sc} (hs : shOf P t = some (.agg l)) (cs : Array Value) (off : Nat) (w : World) :
    (part t cs off).run P w = .ok (.agg ((cs.toList.drop off).take l.length).toArray) w := by
  unfold part
  simp only [Sem.run_bind, (isAgg_agg hs w).1, Result.andThen_ok, if_true, (isAgg_agg hs w).2, Sem.run_pure]
  congr 2
  apply Array.ext'
  simp [Array.toList_extract]
theorem partR_sound {P : Program} {rd : PP → Prop} {t : TypeId} {cs : Array Value} {off : Nat} {K : Value → PP} {h : Heap} (hh : partR P t cs off K h) : ∃ u, RVal P rd (part t cs off) u ∧ K u h := by
  unfold partR at hh
  cases hs : shOf P t with
  | none => rw [hs] at hh; exact hh.elim
  | some sh =>
    rw [hs] at hh
    cases sh with
    | sc s =>
      dsimp only at hh
      cases hv : cs.toList[off]? with
      | none => simp only [hv] at hh; exact hh.elim
      | some v => simp only [hv] at hh; exact ⟨v, fun w _ => part_sc hs hv w, hh⟩
    | agg l => exact ⟨_, fun w _ => part_agg hs cs off w, hh⟩
theorem indexR_sound {P : Program} {rd : PP → Prop} {t : TypeId} {v ix : Value} {K : Value → PP} {h : Heap} (hh : indexR P t v ix K h) :
    ∃ u, RVal P rd (Instr.index t v ix) u ∧ K u h := by
  unfold indexR at hh
  cases ix <;> (try dsimp only at hh) <;> try exact hh.elim
  rename_i k i
  cases ht : P.underlying t with
  | none => rw [ht] at hh; exact hh.elim
  | some d =>
    rw [ht] at hh
    cases d <;> (try dsimp only at hh) <;> try exact hh.elim
    case string =>
      cases v <;> (try dsimp only at hh) <;> try exact hh.elim
      rename_i x
      obtain ⟨b, ⟨h0, hb⟩, hk⟩ := hh
      refine ⟨_, fun w _ => ?_, hk⟩
      have hb' : x[i.toNat]? = some b := by
        rw [List.getElem?_eq_some_iff] at hb
        obtain ⟨hlt, hb⟩ := hb
        have hlt' : i.toNat < x.size := by simpa using hlt
        rw [getElem?_pos x i.toNat hlt']
        exact congrArg some hb
      unfold Instr.index
      simp only [asIntOf, Sem.run_bind, Sem.run_pure, Result.andThen_ok, run_und ht, if_pos h0, hb']
    case array n e =>
      cases v <;> (try dsimp only at hh) <;> try exact hh.elim
      rename_i cs
      cases hs : shOf P e with
      | none => simp only [hs] at hh; exact hh.elim
      | some sh =>
        simp only [hs] at hh
        cases sh <;> (try dsimp only at hh) <;> try exact hh.elim
        rename_i s
        cases hi_ : P.info? e with
        | none => simp only [hi_] at hh; exact hh.elim
        | some inf =>
        simp only [hi_] at hh
        cases hb : Nat.beq inf.size 1 with
        | false => rw [hb] at hh; exact hh.elim
        | true =>
        rw [hb] at hh
        obtain ⟨x, ⟨h0, h1, hx⟩, hk⟩ := hh
        refine ⟨_, fun w _ => ?_, hk⟩
        have hsz : (sizeOf e).run P w = .ok 1 w := by
          rw [sizeOf_run hi_, Nat.eq_of_beq_eq_true hb]
        unfold Instr.index
        simp only [asIntOf, Sem.run_bind, Sem.run_pure, Result.andThen_ok, run_und ht, if_pos (show 0 ≤ i ∧ i < (n : Int) from ⟨h0, h1⟩), hsz, Nat.mul_one, part_sc hs hx]
theorem fieldR_sound {P : Program} {rd : PP → Prop} {t : TypeId} {v : Value} {f : Nat} {K : Value → PP} {h : Heap} (hh : fieldR P t v f K h) :
    ∃ u, RVal P rd (Instr.field t v f) u ∧ K u h := by
  unfold fieldR at hh
  cases ht : P.underlying t with
  | none => rw [ht] at hh; exact hh.elim
  | some d =>
    rw [ht] at hh
    cases d <;> (try dsimp only at hh) <;> try exact hh.elim
    rename_i fs
    cases hf : fs.toList[f]? with
    | none => rw [hf] at hh; exact hh.elim
    | some fd =>
      rw [hf] at hh
      cases v <;> (try dsimp only at hh) <;> try exact hh.elim
      rename_i cs
      obtain ⟨u, hu, hk⟩ := partR_sound (rd := rd) hh
      have hf' : fs[f]? = some fd := by simpa using hf
      refine ⟨u, fun w hw => ?_, hk⟩
      unfold Instr.field
      simp only [Sem.run_bind, run_und ht, Result.andThen_ok, hf', asAgg, Sem.run_pure, hu w hw]
theorem fieldAddrR_sound {P : Program} {rd : PP → Prop} {t : TypeId} {v : Value} {f : Nat} {K : Value → PP} {h : Heap} (hh : fieldAddrR P t v f K h) :
    ∃ u, RVal P rd (Instr.fieldAt t v f) u ∧ K u h := by
  unfold fieldAddrR at hh
  cases ht : P.underlying t with
  | none => rw [ht] at hh; exact hh.elim
  | some d =>
    rw [ht] at hh
    cases d <;> (try dsimp only at hh) <;> try exact hh.elim
    rename_i fs
    cases hf : fs.toList[f]? with
    | none => rw [hf] at hh; exact hh.elim
    | some fd =>
      rw [hf] at hh
      dsimp only at hh
      cases hi_ : P.info? fd.type with
      | none => simp only [hi_] at hh; exact hh.elim
      | some inf =>
        simp only [hi_] at hh
        cases hz : inf.size with
        | zero => rw [hz] at hh; exact hh.elim
        | succ z =>
          rw [hz] at hh
          cases v <;> (try dsimp only at hh) <;> try exact hh.elim
          rename_i p
          cases p <;> (try dsimp only at hh) <;> try exact hh.elim
          have hf' : fs[f]? = some fd := by simpa using hf
          refine ⟨_, fun w hw => ?_, hh⟩
          unfold Instr.fieldAt fieldPlace
          simp only [Sem.run_bind, run_und ht, Result.andThen_ok, hf', Instr.sureAddr, Sem.run_pure, sizeOf_run hi_, hz, Nat.add_eq_zero_iff, Nat.one_ne_zero, and_false, if_false]
theorem lenR_sound {P : Program} {rd : PP → Prop} {t ty : TypeId} {v : Value} {K : Value → PP} {h : Heap} {ts : Array TypeId} {vs : Array Value} (h1 : ts[0]? = some t) (h2 : vs[0]? = some v) (hh : lenR P t v K h) :
    ∃ u, RVal P rd (Builtin.len_ ts ty vs) u ∧ K u h := by
  unfold lenR at hh
  cases ht : P.underlying t with
  | none => rw [ht] at hh; exact hh.elim
  | some d =>
    rw [ht] at hh
    cases d <;> (try dsimp only at hh) <;> try exact hh.elim
    case string =>
      cases v <;> (try dsimp only at hh) <;> try exact hh.elim
      rename_i x
      have es : x.data.toList.length = x.size := by show x.data.toList.length = x.data.size; simp
      refine ⟨_, fun w _ => ?_, hh⟩
      unfold Builtin.len_
      simp only [h1, h2, Sem.run_bind, run_und ht, Result.andThen_ok, Sem.run_pure, es]
      rfl
    case slice =>
      cases v <;> (try dsimp only at hh) <;> try exact hh.elim
      refine ⟨_, fun w _ => ?_, hh⟩
      unfold Builtin.len_
      simp only [h1, h2, Sem.run_bind, run_und ht, Result.andThen_ok, Sem.run_pure]
      rfl
    case array =>
      refine ⟨_, fun w _ => ?_, hh⟩
      unfold Builtin.len_
      simp only [h1, h2, Sem.run_bind, run_und ht, Result.andThen_ok, Sem.run_pure]
      rfl
theorem capR_sound {P : Program} {rd : PP → Prop} {t ty : TypeId} {v : Value} {K : Value → PP} {h : Heap} {ts : Array TypeId} {vs : Array Value} (h1 : ts[0]? = some t) (h2 : vs[0]? = some v) (hh : capR P t v K h) :
    ∃ u, RVal P rd (Builtin.cap_ ts ty vs) u ∧ K u h := by
  unfold capR at hh
  cases ht : P.underlying t with
  | none => rw [ht] at hh; exact hh.elim
  | some d =>
    rw [ht] at hh
    cases d <;> (try dsimp only at hh) <;> try exact hh.elim
    cases v <;> (try dsimp only at hh) <;> try exact hh.elim
    refine ⟨_, fun w _ => ?_, hh⟩
    unfold Builtin.cap_
    simp only [h1, h2, Sem.run_bind, run_und ht, Result.andThen_ok, Sem.run_pure]
    rfl
theorem foldV_sound {P : Program} (f : Value → Value → Option Value) (g : Value → Value → Sem Value) (hfg : ∀ x y z, f x y = some z → ∀ w, (g x y).run P w = .ok z w) :
    ∀ (r : List Value) (x z : Value), foldV f x r = some z → ∀ w, (r.foldlM g x).run P w = .ok z w
  | [], x, z, hz, w => by cases hz; rfl
  | y :: r, x, z, hz, w => by
    simp only [foldV] at hz
    split at hz
    · rename_i u hu
      simp only [List.foldlM_cons, Sem.run_bind, hfg x y u hu w, Result.andThen_ok]
      exact foldV_sound f g hfg r u z hz w
    · cases hz
theorem max2V_sound {P : Program} (x y z : Value) (hz : max2V x y = some z) (w : World) : (Builtin.max2 x y).run P w = .ok z w := by
  unfold max2V at hz
  split at hz <;> cases hz
  rfl
theorem min2V_sound {P : Program} (x y z : Value) (hz : min2V x y = some z) (w : World) : (Builtin.min2 x y).run P w = .ok z w := by
  unfold min2V at hz
  split at hz <;> cases hz
  rfl
theorem builtR_sound {P : Program} {rd : PP → Prop} {b : Builtin} {ts : Array TypeId} {ty : TypeId} {cs : Array Bool} {vs : List Value} {K : Value → PP} {h : Heap} (hh : builtR P b ts vs K h) :
    ∃ u, ONext P rd (builtin b ts ty cs vs.toArray) u ∧ K u h := by
  unfold builtR at hh
  cases b <;> (try dsimp only at hh) <;> try exact hh.elim
  case len =>
    cases ht : ts.toList with
    | nil => rw [ht] at hh; exact hh.elim
    | cons t r =>
      rw [ht] at hh
      cases vs with
      | nil => exact hh.elim
      | cons v vr =>
        obtain ⟨u, hu, hk⟩ := lenR_sound (rd := rd) (ty := ty) (ts := ts) (vs := (v :: vr).toArray) (by rw [← Array.getElem?_toList, ht]; rfl) (by simp) hh
        exact ⟨u, hu.next, hk⟩
  case cap =>
    cases ht : ts.toList with
    | nil => rw [ht] at hh; exact hh.elim
    | cons t r =>
      rw [ht] at hh
      cases vs with
      | nil => exact hh.elim
      | cons v vr =>
        obtain ⟨u, hu, hk⟩ := capR_sound (rd := rd) (ty := ty) (ts := ts) (vs := (v :: vr).toArray) (by rw [← Array.getElem?_toList, ht]; rfl) (by simp) hh
        exact ⟨u, hu.next, hk⟩
  case max =>
    cases vs with
    | nil => exact hh.elim
    | cons x r =>
      obtain ⟨u, hu, hk⟩ := onV_elim hh
      refine ⟨u, RVal.next (fun w _ => ?_), hk⟩
      exact foldV_sound max2V Builtin.max2 (fun x y z hz w => max2V_sound x y z hz w) r x u hu w
  case min =>
    cases vs with
    | nil => exact hh.elim
    | cons x r =>
      obtain ⟨u, hu, hk⟩ := onV_elim hh
      refine ⟨u, RVal.next (fun w _ => ?_), hk⟩
      exact foldV_sound min2V Builtin.min2 (fun x y z hz w => min2V_sound x y z hz w) r x u hu w
theorem onO_elim {σ : Env} {x : Option Operand} {K : Option Value → PP} {h : Heap} (hh : onO σ x K h) {n : Nat} {a : Act} (ha : Agrees n σ a) : K (x.map a.eval) h := by
  cases x with
  | none => exact hh
  | some x =>
    unfold onO at hh
    cases he : ev σ x with
    | none => simp only [he] at hh; exact hh.elim
    | some v => simp only [he] at hh; rw [Option.map_some, ha.ev he]; exact hh
theorem opR_sound {P : Program} {σ : Env} {o : Oper} {rd : PP → Prop} {K : Value → PP} {h : Heap} {n : Nat} {a : Act} (ha : Agrees n σ a) (hh : opR P σ o rd K h) :
    ∃ v, ONext P rd (execOp a.eval o) v ∧ K v h := by
  unfold opR at hh
  unfold execOp
  generalize o.op = op at hh ⊢
  cases op <;> (try dsimp only at hh ⊢) <;> try exact hh.elim
  case move x =>
    obtain ⟨v, hv, hk⟩ := onV_elim hh
    exact ⟨v, fun w _ => by rw [ha.ev hv]; rfl, hk⟩
  case assign x =>
    obtain ⟨v, hv, hk⟩ := onV_elim hh
    exact ⟨v, fun w _ => by rw [ha.ev hv]; rfl, hk⟩
  case pick c x y =>
    cases hc : ev σ c with
    | none => simp only [hc] at hh; exact hh.elim
    | some cv =>
      simp only [hc] at hh
      cases cv <;> (try dsimp only at hh) <;> try exact hh.elim
      rename_i b
      cases b
      · obtain ⟨v, hv, hk⟩ := onV_elim hh
        exact ⟨v, fun w _ => by rw [ha.ev hc, ha.ev hv]; rfl, hk⟩
      · obtain ⟨v, hv, hk⟩ := onV_elim hh
        exact ⟨v, fun w _ => by rw [ha.ev hc, ha.ev hv]; rfl, hk⟩
  case load t x =>
    cases hx : ev σ x with
    | none => simp only [hx] at hh; exact hh.elim
    | some xv =>
      simp only [hx] at hh
      cases xv <;> (try dsimp only at hh) <;> try exact hh.elim
      rename_i p
      cases p <;> (try dsimp only at hh) <;> try exact hh.elim
      rename_i ad
      cases hs : shOf P t with
      | none => simp only [hs] at hh; exact hh.elim
      | some sh =>
        simp only [hs] at hh
        obtain ⟨v, hv, hk⟩ := ldT_sound hs hh
        refine ⟨v, RVal.next (fun w hw => ?_), hk⟩
        unfold Instr.loadAt
        rw [ha.ev hx]
        simp only [Instr.sureAddr, Sem.run_bind, Sem.run_pure, Result.andThen_ok]
        exact hv w hw
  case nilCheck x =>
    cases hx : ev σ x with
    | none => simp only [hx] at hh; exact hh.elim
    | some xv =>
      simp only [hx] at hh
      cases xv <;> (try dsimp only at hh) <;> try exact hh.elim
      obtain ⟨ad, rfl, hk⟩ := hh
      exact ⟨_, fun w _ => by rw [ha.ev hx]; rfl, hk⟩
  case binOp op t x y yt =>
    obtain ⟨v1, hv1, hh⟩ := onV_elim hh
    obtain ⟨v2, hv2, hh⟩ := onV_elim hh
    obtain ⟨v, hv, hk⟩ := binR_sound (rd := rd) hh
    refine ⟨v, RVal.next ?_, hk⟩
    rw [ha.ev hv1, ha.ev hv2]
    exact hv
  case unOp op t x =>
    obtain ⟨v1, hv1, hh⟩ := onV_elim hh
    obtain ⟨v, hv, hk⟩ := unR_sound (rd := rd) (P := P) hh
    refine ⟨v, RVal.next ?_, hk⟩
    rw [ha.ev hv1]
    exact hv
  case convert s d x =>
    obtain ⟨v1, hv1, hh⟩ := onV_elim hh
    obtain ⟨v, hv, hk⟩ := convR_sound hh
    refine ⟨v, RVal.next ?_, hk⟩
    rw [ha.ev hv1]
    exact hv
  case makeInterface t x =>
    cases ht : P.underlying t with
    | none => simp only [ht] at hh; exact hh.elim
    | some d =>
      simp only [ht] at hh
      cases d <;> (try dsimp only at hh) <;> try exact hh.elim
      all_goals
        obtain ⟨v, hv, hk⟩ := onV_elim hh
        refine ⟨_, RVal.next (fun w _ => ?_), hk⟩
        unfold Instr.makeInterface
        rw [ha.ev hv]
        simp only [Sem.run_bind, run_und ht, Result.andThen_ok]
        rfl
  case makeFunc fn first cap =>
    cases h1 : evs σ first.toList with
    | none => simp only [h1] at hh; exact hh.elim
    | some vs =>
      simp only [h1] at hh
      cases h2 : evs σ cap.toList with
      | none => simp only [h2] at hh; exact hh.elim
      | some us =>
        simp only [h2] at hh
        refine ⟨_, RVal.next (fun w _ => ?_), hh⟩
        unfold Instr.makeFunc
        rw [← ha.evs h1, ← ha.evs h2, ← Array.toList_map, ← Array.toList_map]
        rfl
  case slice t x lo hi mx =>
    obtain ⟨v1, hv1, hh⟩ := onV_elim hh
    have hh := onO_elim (onO_elim (onO_elim hh ha) ha) ha
    obtain ⟨v, hv, hk⟩ := sliceR_sound (rd := rd) hh
    refine ⟨v, RVal.next ?_, hk⟩
    rw [ha.ev hv1]
    exact hv
  case fieldAddr t x f =>
    obtain ⟨v1, hv1, hh⟩ := onV_elim hh
    obtain ⟨v, hv, hk⟩ := fieldAddrR_sound (rd := rd) hh
    refine ⟨v, RVal.next ?_, hk⟩
    rw [ha.ev hv1]
    exact hv
  case field t x f =>
    obtain ⟨v1, hv1, hh⟩ := onV_elim hh
    obtain ⟨v, hv, hk⟩ := fieldR_sound (rd := rd) hh
    refine ⟨v, RVal.next ?_, hk⟩
    rw [ha.ev hv1]
    exact hv
  case indexAddr t x i =>
    obtain ⟨v1, hv1, hh⟩ := onV_elim hh
    obtain ⟨v2, hv2, hh⟩ := onV_elim hh
    obtain ⟨v, hv, hk⟩ := indexAddrR_sound (rd := rd) hh
    refine ⟨v, RVal.next ?_, hk⟩
    rw [ha.ev hv1, ha.ev hv2]
    exact hv
  case index t x i =>
    obtain ⟨v1, hv1, hh⟩ := onV_elim hh
    obtain ⟨v2, hv2, hh⟩ := onV_elim hh
    obtain ⟨v, hv, hk⟩ := indexR_sound (rd := rd) hh
    refine ⟨v, RVal.next ?_, hk⟩
    rw [ha.ev hv1, ha.ev hv2]
    exact hv
  case extract x i =>
    cases hx : ev σ x with
    | none => simp only [hx] at hh; exact hh.elim
    | some xv =>
      simp only [hx] at hh
      cases xv <;> (try dsimp only at hh) <;> try exact hh.elim
      rename_i vs
      obtain ⟨v, hv, hk⟩ := onV_elim hh
      refine ⟨v, RVal.next (fun w _ => ?_), hk⟩
      have hv' : vs[i]? = some v := by simpa using hv
      unfold Instr.extract
      rw [ha.ev hx]
      simp only [hv', Sem.run_pure]
  case call c =>
    cases hc : c.callee <;> (try simp only [hc] at hh) <;> try exact hh.elim
    rename_i b
    cases h1 : evs σ c.args.toList with
    | none => simp only [h1] at hh; exact hh.elim
    | some vs =>
      simp only [h1] at hh
      obtain ⟨u, hu, hk⟩ := builtR_sound (rd := rd) (ty := o.type) (cs := c.args.map fun | .const _ => true | _ => false) hh
      refine ⟨u, fun w hw => ?_, hk⟩
      have e : c.args.map a.eval = vs.toArray := by rw [← ha.evs h1, ← Array.toList_map]
      unfold resolve
      simp only [hc, Sem.run_bind, Sem.run_pure, Result.andThen_ok, invoke, e]
      exact hu w hw
end Go.Shal
end

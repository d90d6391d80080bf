/- Operations that make or write memory: typed rules. That the model's writing operations do what 'opW' says. That the model's writing operations do what 'opW' says: conversions, copy, maps; 'opW' whole. That the model's operations on maps do what 'opW' says; 'opW' whole. -/
import Derived.Test.YtemfgkhholobgaaGreatDoorCB
section
namespace Go.Shal
open Go
/-- A new block. -/
def newP (E : TypeId) (cs : List Value) (K : Addr → PP) : PP := fun h => K ⟨h.size, 0, none⟩ (h.push (.cells cs.toArray E (0, 0)))
def newM (K : Nat → PP) : PP := fun h => K h.size (h.push (.map #[] 0))
/-- What may be put into a cell. -/
def okCell : (s : Sc) → s.T → Prop
  | .any, v => v.oneCell' = true
  | _, _ => True
def stP (s : Sc) (a : Addr) (x : s.T) (K : PP) : PP := fun h =>
  ((∃ u, hcell h a = some u) ∧ hfrozen h a = false ∧ okCell s x) ∧ K (hset h a (s.inj x))
/-- Cells put one behind the other. -/
def stsP (a : Addr) : (l : List Sc) → Tup l → Nat → PP → PP
  | [], _, _, K => K
  | s :: l, t, i, K => stP s (a.add i) t.1 (stsP a l t.2 (i + 1) K)
/-- Cells of whatever kind put one behind the other. -/
def putP (a : Addr) : List Value → Nat → PP → PP
  | [], _, K => K
  | v :: r, i, K => fun h => ((∃ u, hcell h (a.add i) = some u) ∧ hfrozen h (a.add i) = false ∧ v.oneCell' = true) ∧ putP a r (i + 1) K (hset h (a.add i) v)
/-- The cells of a slice's array from its beginning on. -/
def cellsAt (h : Heap) (p : Option Addr) (n : Nat) (l : List Value) : Prop :=
  match p with
  | none => l = []
  | some a => l.length = n ∧ ∀ j v, l[j]? = some v → hcell h (a.add j) = some v
def byteCells (l : Bytes) : List Value := l.map fun b => Value.int .u8 (b.toNat : Int)
/-- n zero elements. -/
def zrow (z : Array Value) (n : Nat) : Array Value := (Array.range (n * z.size)).map fun i => z[i % z.size]!
def srcAt (h : Heap) (size : Nat) (x : Value) (new : List Value) : Prop :=
  match x with
  | .slice q m _ => cellsAt h q (m * size) new
  | .string s => new = byteCells s.data.toList
  | _ => False
def srcLen : Value → Nat
  | .slice _ m _ => m
  | .string s => s.data.toList.length
  | _ => 0
/-- append: there is room, or new memory is made, of whatever capacity. -/
def appP (E size bytes : Nat) (z : Array Value) (p : Option Addr) (n c : Nat) (x : Value) (K : Option Addr → Nat → Nat → PP) : PP := fun h =>
  ∃ new, srcAt h size x new ∧
    (n + srcLen x ≤ c → (match p with
      | none => K none (n + srcLen x) c
      | some a => putP (a.add (n * size)) new 0 (K (some a) (n + srcLen x) c)) h) ∧
    (c < n + srcLen x → (2 * (n + srcLen x) + 192) * bytes ≤ 2 ^ 48 ∧ ∃ old, cellsAt h p (n * size) old ∧
      ∀ cap, n + srcLen x ≤ cap → cap ≤ 9223372036854775807 → K (some ⟨h.size, 0, none⟩) (n + srcLen x) cap (h.push (.cells (old.toArray ++ new.toArray ++ zrow z (cap - (n + srcLen x))) E (0, 0))))
/-- copy. -/
def copyP (size : Nat) (p : Option Addr) (n : Nat) (x : Value) (K : Nat → PP) : PP := fun h =>
  ∃ new, srcAt h size x new ∧ new.length = srcLen x * size ∧ (match p with
    | none => K (min (srcLen x) n)
    | some a => putP a (new.take (min (srcLen x) n * size)) 0 (K (min (srcLen x) n))) h
/-- Bytes of a string in new memory. -/
def ofStrP (E : TypeId) (l : Bytes) (K : Option Addr → Nat → Nat → PP) : PP := fun h =>
  ∀ cap, l.length ≤ cap → K (some ⟨h.size, 0, none⟩) l.length cap (h.push (.cells (byteCells l ++ List.replicate (cap - l.length) (Value.int .u8 0)).toArray E (cap, cap + 1)))
/-- make of a slice. -/
def mkSlP (E bytes : Nat) (z : Array Value) (l c : Int) (K : Option Addr → Nat → Nat → PP) : PP := fun h =>
  (0 ≤ l ∧ l ≤ c ∧ bytes * c ≤ 2 ^ 48 ∧ c ≤ 9223372036854775807) ∧ K (some ⟨h.size, 0, none⟩) l.toNat c.toNat (h.push (.cells (zrow z c.toNat) E (0, 0)))
/-! ### Maps by strings -/
def isKey (k : Bytes) (e : MapEntry) : Bool :=
  match e.key with
  | .string s => k == s.data.toList
  | _ => false
def strKeys (es : Array MapEntry) : Prop := ∀ e ∈ es.toList, ∃ k : Bytes, e.key = .string (bs k)
def mapAt (h : Heap) (r : Nat) (es : Array MapEntry) (clock : Nat) : Prop := h[r]? = some (.map es clock)
/-- A look-up by a string: what is found, and whether. -/
def lookP (rd : PP → Prop) (s : Sc) (z : s.T) (m : Option Nat) (k : Bytes) (K : s.T → Bool → PP) : PP := fun h =>
  (m = none ∧ K z false h) ∨
  ∃ r es clock, m = some r ∧ rd (fun h' => mapAt h' r es clock) ∧ strKeys es ∧
    (match es.toList.find? (isKey k) with
      | some e => ∃ x : s.T, e.val = s.inj x ∧ K x true h
      | none => K z false h)
/-- The entries behind a store. -/
def putE (es : Array MapEntry) (clock : Nat) (k : Bytes) (v : Value) : Obj :=
  match es.toList.findIdx? (isKey k) with
  | some i => .map (es.modify i fun e => { e with key := .string (bs k), val := v }) clock
  | none => .map (es.push { key := .string (bs k), val := v, born := clock }) (clock + 1)
def updP (m : Option Nat) (k : Bytes) (v : Value) (K : PP) : PP := fun h =>
  ∃ r es clock, m = some r ∧ mapAt h r es clock ∧ strKeys es ∧ K (h.setIfInBounds r (putE es clock k v))
def dropE (es : Array MapEntry) (clock : Nat) (k : Bytes) : Obj :=
  match es.toList.findIdx? (isKey k) with
  | some i => .map (es.eraseIdxIfInBounds i) clock
  | none => .map es clock
def delP (m : Option Nat) (k : Bytes) (K : PP) : PP := fun h =>
  (m = none ∧ K h) ∨ ∃ r es clock, m = some r ∧ mapAt h r es clock ∧ strKeys es ∧ K (h.setIfInBounds r (dropE es clock k))
def lenMP (rd : PP → Prop) (m : Option Nat) (K : Int → PP) : PP := fun h =>
  (m = none ∧ K 0 h) ∨ ∃ r es clock, m = some r ∧ rd (fun h' => mapAt h' r es clock) ∧ K (es.size : Int) h
/-- An iterator over a map is made. -/
def rangeMP (m : Option Nat) (K : Addr → PP) : PP := fun h =>
  (m = none ∧ K ⟨h.size, 0, none⟩ (h.push (.mapIter none 0 #[] 0))) ∨
  ∃ r es clock, m = some r ∧ mapAt h r es clock ∧ K ⟨h.size, 0, none⟩ (h.push (.mapIter (some r) clock #[] clock))
/-- The entries that an iterator may still come to (nothing was put in since it was made). -/
def leftE (es : Array MapEntry) (seen : Array Nat) : Array MapEntry := es.filter fun e => !seen.contains e.born
/-- The next step of an iterator over a map into which nothing was put since. -/
def nextMP (a : Addr) (F : PP) (K : MapEntry → PP) : PP := fun h => a.off = 0 ∧
  ((∃ s q l, h[a.block]? = some (.mapIter none s q l) ∧ F h) ∨
   ∃ r since seen last es, h[a.block]? = some (.mapIter (some r) since seen last) ∧ mapAt h r es since ∧
    (∀ e ∈ es.toList, e.born < since) ∧ (seen.isEmpty = true ∨ es.isEmpty = true ∨ ∃ e ∈ es.toList, e.born < last) ∧
    (leftE es seen = #[] → F h) ∧
    ∀ e ∈ (leftE es seen).toList, K e (h.setIfInBounds a.block (.mapIter (some r) since (seen.push e.born) since)))
/-- The entry at which an iterator stands. -/
def entryMP (rd : PP → Prop) (a : Addr) (s : Sc) (K : Bytes → s.T → PP) : PP := fun h => a.off = 0 ∧
  ∃ r since seen last es stamp, rd (fun h' => h'[a.block]? = some (.mapIter (some r) since seen last) ∧ mapAt h' r es last) ∧ seen.back? = some stamp ∧
    ∃ e, es.find? (·.born == stamp) = some e ∧ ∃ (k : Bytes) (x : s.T), e.key = .string (bs k) ∧ e.val = s.inj x ∧ K k x h
/-! ### The operations -/
def zeroOf (P : Program) (t : TypeId) : Option (Array Value) :=
  match P.info? t with
  | some i => match i.zero with
    | some z => some z.cells
    | none => none
  | none => none
def sameSize (P : Program) (t : TypeId) (n : Nat) : Bool :=
  match P.info? t with
  | some i => Nat.beq i.size n
  | none => false
def storeW (P : Program) (t : TypeId) (a : Addr) (v : Value) (K : PP) : PP :=
  match sameSize P t v.cells.toList.length with
  | true => match shOf P t with
    | some (.sc s) => match s.proj v with
      | some x => stP s a x K
      | none => nope
    | some (.agg l) => match projs l v.cells.toList with
      | some x => stsP a l x 0 K
      | none => nope
    | none => nope
  | false => nope
def placesOf (P : Program) : List Field → Option (List (Nat × Nat))
  | [] => some []
  | f :: r => match P.info? f.type with
    | some i => match placesOf P r with
      | some l => some ((f.offset, i.size) :: l)
      | none => none
    | none => none
def evParts (σ : Env) : List (Nat × Operand) → Option (List (Nat × Value))
  | [] => some []
  | (i, x) :: r => match ev σ x with
    | some v => match evParts σ r with
      | some l => some ((i, v) :: l)
      | none => none
    | none => none
def buildR (P : Program) (t : TypeId) (ps : List (Nat × Value)) (K : Value → PP) : PP :=
  match zeroOf P t with
  | some z => match P.underlying t with
    | some (.struct fs) => match placesOf P fs.toList with
      | some pl => match Instr.fill (fun i => pl[i]?) z ps with
        | some cs => K (.agg cs)
        | none => nope
      | none => nope
    | some (.array _ e) => match P.info? e with
      | some i => match Instr.fill (fun j => some (j * i.size, i.size)) z ps with
        | some cs => K (.agg cs)
        | none => nope
      | none => nope
    | _ => nope
  | none => nope
def buildSliceW (P : Program) (t : TypeId) (len : Nat) (ps : List (Nat × Value)) (K : Value → PP) : PP :=
  match P.underlying t with
  | some (.slice e) => match P.info? e with
    | some i => match zeroOf P e with
      | some z => match Nat.ble (len * i.size) 1000 with
        | true => match Nat.beq (len * i.size + ps.length) 0 with
          | true => newP e [] (fun a => K (.slice (some a) len len))
          | false => match Instr.fill (fun j => some (j * i.size, i.size)) ((Array.range (len * i.size)).map (z[· % z.size]!)) ps with
            | some cs => newP e cs.toList (fun a => K (.slice (some a) len len))
            | none => nope
        | false => nope
      | none => nope
    | none => nope
  | _ => nope
def appendW (P : Program) (ts : Array TypeId) (vs : List Value) (K : Value → PP) : PP :=
  match ts.toList with
  | t :: xt :: _ => match P.underlying t with
    | some (.slice e) => match P.info? e with
      | some i => match zeroOf P e with
        | some z => match vs with
          | s :: x :: _ => match s with
            | .slice p n c => match P.underlying xt with
              | some (.slice _) => match Nat.beq i.bytes 0 with
                | true => nope
                | false => appP e i.size i.bytes z p n c x (fun q n' c' => K (.slice q n' c'))
              | some .string => match Nat.beq i.bytes 0 with
                | true => nope
                | false => match Nat.beq i.size 1 with
                  | true => appP e i.size i.bytes z p n c x (fun q n' c' => K (.slice q n' c'))
                  | false => nope
              | _ => nope
            | _ => nope
          | _ => nope
        | none => nope
      | none => nope
    | _ => nope
  | _ => nope
def copyW (P : Program) (ts : Array TypeId) (vs : List Value) (K : Value → PP) : PP :=
  match ts.toList with
  | t :: _ => match P.underlying t with
    | some (.slice e) => match P.info? e with
      | some i => match vs with
        | d :: x :: _ => match d with
          | .slice p n _ => copyP i.size p n x (fun m => K (.int .i64 (m : Int)))
          | _ => nope
        | _ => nope
      | none => nope
    | _ => nope
  | _ => nope
def makeSliceW (P : Program) (t : TypeId) (l c : Value) (K : Value → PP) : PP :=
  match P.underlying t with
  | some (.slice e) => match P.info? e with
    | some i => match zeroOf P e with
      | some z => match Nat.beq z.toList.length i.size with
        | true => match l with
          | .int _ l => match c with
            | .int _ c => mkSlP e i.bytes z l c (fun q n' c' => K (.slice q n' c'))
            | _ => nope
          | _ => nope
        | false => nope
      | none => nope
    | none => nope
  | _ => nope
def convW (P : Program) (src dst : TypeId) (v : Value) (K : Value → PP) : PP :=
  match P.underlying src with
  | some .string => match P.underlying dst with
    | some (.slice e) => match P.underlying e with
      | some (.int .u8) => match v with
        | .string x => ofStrP e x.data.toList (fun q n' c' => K (.slice q n' c'))
        | _ => nope
      | _ => nope
    | _ => nope
  | _ => nope
/-- A map type by strings: what its elements are, and nothing. -/
def mapEl (P : Program) (t : TypeId) : Option Sc :=
  match P.underlying t with
  | some (.map k e) => match P.underlying k with
    | some .string => scOf P e
    | _ => none
  | _ => none
def mapZero (P : Program) (t : TypeId) : Option Value :=
  match P.underlying t with
  | some (.map _ e) => match P.info? e with
    | some i => i.zero
    | none => none
  | _ => none
def lookW (P : Program) (rd : PP → Prop) (t : TypeId) (m k : Value) (ok : Bool) (K : Value → PP) : PP :=
  match mapEl P t with
  | some s => match mapZero P t with
    | some z => match s.proj z with
      | some z => match m with
        | .map m => match k with
          | .string k => lookP rd s z m k.data.toList (fun x b => match ok with
            | true => K (.tuple #[s.inj x, .bool b])
            | false => K (s.inj x))
          | _ => nope
        | _ => nope
      | none => nope
    | none => nope
  | none => nope
/-- An operation that is no call of a Go function; 'tt' are the loop variables' types at a range. -/
def opW (P : Program) (σ : Env) (o : Oper) (K : Value → PP) : PP :=
  match o.op with
  | .alloc e => match zeroOf P e with
    | some z => newP e z.toList (fun a => K (.pointer (some a)))
    | none => nope
  | .box e x => onV (ev σ x) fun v => newP e v.cells.toList (fun a => K (.pointer (some a)))
  | .build t ps => match evParts σ ps.toList with
    | some l => buildR P t l K
    | none => nope
  | .buildSlice t n ps => match evParts σ ps.toList with
    | some l => buildSliceW P t n l K
    | none => nope
  | .store t x y => match ev σ x with
    | some (.pointer (some a)) => onV (ev σ y) fun v => storeW P t a v (K undef)
    | _ => nope
  | .makeMap _ r => match r with
    | none => newM (fun r => K (.map (some r)))
    | some _ => nope
  | .makeSlice t l c => onV (ev σ l) fun l => onV (ev σ c) fun c => makeSliceW P t l c K
  | .convert src dst x => onV (ev σ x) fun v => convW P src dst v K
  | .lookup t m k ok => onV (ev σ m) fun m => onV (ev σ k) fun k => fun h => lookW P (fun p => p h) t m k ok K h
  | .mapUpdate t m k x => match mapEl P t with
    | some s => onV (ev σ m) fun m => onV (ev σ k) fun k => onV (ev σ x) fun x => match m with
      | .map m => match k with
        | .string k => match s.proj x with
          | some x => updP m k.data.toList (s.inj x) (K undef)
          | none => nope
        | _ => nope
      | _ => nope
    | none => nope
  | .range t x => match mapEl P t with
    | some _ => match ev σ x with
      | some (.map m) => rangeMP m (fun a => K (.pointer (some a)))
      | _ => nope
    | none => nope
  | .next x str => match str with
    | true => nope
    | false => match ev σ x with
      | some (.pointer (some a)) => nextMP a (K (.tuple #[.bool false])) (fun e => K (.tuple #[.bool true, e.key, e.val]))
      | _ => nope
  | .entry x => match ev σ x with
    | some (.pointer (some a)) => fun h => entryMP (fun p => p h) a .ptr (fun k x => K (.tuple #[.string (bs k), .pointer x])) h
    | _ => nope
  | .call c => match c.callee with
    | .builtin .append => match evs σ c.args.toList with
      | some vs => appendW P c.argTypes vs K
      | none => nope
    | .builtin .copy => match evs σ c.args.toList with
      | some vs => copyW P c.argTypes vs K
      | none => nope
    | .builtin .delete => match c.argTypes.toList with
      | t :: _ => match mapEl P t with
        | some _ => match evs σ c.args.toList with
          | some (.map m :: .string k :: _) => delP m k.data.toList (K (.tuple #[]))
          | _ => nope
        | none => nope
      | _ => nope
    | .builtin .len => match c.argTypes.toList with
      | t :: _ => match mapEl P t with
        | some _ => match evs σ c.args.toList with
          | some (.map m :: _) => fun h => lenMP (fun p => p h) m (fun n => K (.int .i64 n)) h
          | _ => nope
        | none => nope
      | _ => nope
    | _ => nope
  | _ => nope
end Go.Shal
end
section
namespace Go.Shal
open Go
/-- A computation of the model's goes through, and R holds then. -/
def Goes {α : Type} (P : Program) (s : Sem α) (w : World) (R : α → World → Prop) : Prop := ∃ v w', s.run P w = .ok v w' ∧ R v w'
theorem Goes.bind {α β : Type} {P : Program} {s : Sem α} {f : α → Sem β} {w : World} {R : β → World → Prop} (h : Goes P s w fun v w' => Goes P (f v) w' R) : Goes P (s >>= f) w R := by
  obtain ⟨v, w', hs, u, w'', hf, hr⟩ := h
  exact ⟨u, w'', by rw [Sem.run_bind, hs, Result.andThen_ok, hf], hr⟩
theorem Goes.pure {α : Type} {P : Program} {v : α} {w : World} {R : α → World → Prop} (h : R v w) : Goes P (Pure.pure v) w R := ⟨v, w, rfl, h⟩
theorem Goes.of_run {α : Type} {P : Program} {s : Sem α} {w w' : World} {v : α} {R : α → World → Prop} (h : s.run P w = .ok v w') (hr : R v w') : Goes P s w R := ⟨v, w', h, hr⟩
theorem Goes.und {P : Program} {t : TypeId} {d : TypeDesc} (h : P.underlying t = some d) {w : World} {R : TypeDesc → World → Prop} (hr : R d w) : Goes P (underlying t) w R := ⟨d, w, run_und h w, hr⟩
theorem Goes.ti {P : Program} {t : TypeId} {i : TypeInfo} (h : P.info? t = some i) {w : World} {R : TypeInfo → World → Prop} (hr : R i w) : Goes P (typeInfo t) w R := ⟨i, w, run_ti h w, hr⟩
theorem Goes.size {P : Program} {t : TypeId} {i : TypeInfo} (h : P.info? t = some i) {w : World} {R : Nat → World → Prop} (hr : R i.size w) : Goes P (sizeOf t) w R := ⟨i.size, w, sizeOf_run h w, hr⟩
theorem Goes.mono {α : Type} {P : Program} {s : Sem α} {w : World} {R R' : α → World → Prop} (h : Goes P s w R) (hr : ∀ v w', R v w' → R' v w') : Goes P s w R' :=
  let ⟨v, w', hs, h'⟩ := h; ⟨v, w', hs, hr v w' h'⟩
/-- What is asked behind: a heap, all else as it was. -/
def Beh {α : Type} (w : World) (K : α → PP) : α → World → Prop := fun v w' => Same w w' ∧ K v w'.heap
theorem zeroOf_elim {P : Program} {t : TypeId} {z : Array Value} (h : zeroOf P t = some z) : ∃ v, z = v.cells ∧ ∀ w, (zeroValue t).run P w = .ok v w := by
  unfold zeroOf at h
  split at h
  · rename_i i hi
    split at h
    · rename_i v hv
      cases h
      exact ⟨v, rfl, fun w => by unfold zeroValue; simp only [Sem.run_bind, run_ti hi, Result.andThen_ok, hv, Sem.run_pure]⟩
    · cases h
  · cases h
theorem Goes.zero {P : Program} {t : TypeId} {z : Array Value} (h : zeroOf P t = some z) {w : World} {R : Value → World → Prop} (hr : ∀ v, z = v.cells → R v w) : Goes P (zeroValue t) w R :=
  let ⟨v, hv, hz⟩ := zeroOf_elim h; ⟨v, w, hz w, hr v hv⟩
theorem newRow_goes {P : Program} {E : TypeId} {cs : List Value} {K : Addr → PP} {w : World} (h : newP E cs K w.heap) : Goes P (newRow E cs.toArray) w (Beh w K) :=
  ⟨⟨w.heap.size, 0, none⟩, { w with heap := w.heap.push (.cells cs.toArray E) }, rfl, ⟨rfl, rfl, rfl⟩, h⟩
theorem store_goes {P : Program} {a : Addr} {v u : Value} {w : World} {R : Unit → World → Prop} (hc : hcell w.heap a = some u) (hf : hfrozen w.heap a = false) (ho : v.oneCell' = true)
    (hr : R () (w.setCell a v)) : Goes P (store a v) w R := by
  refine ⟨(), _, ?_, hr⟩
  rw [run_store P w a v .plain ho, cell_eq, hc]
  dsimp only
  rw [frozen_eq, hf]
  rfl
theorem Same.set (w : World) (a : Addr) (v : Value) : Same w (w.setCell a v) := ⟨rfl, rfl, rfl⟩
theorem storeCells_goes {P : Program} (a : Addr) {K : PP} : ∀ (vs : List Value) (i : Nat) (w : World), putP a vs i K w.heap → Goes P (storeCells a vs i) w (Beh w fun _ => K)
  | [], _, w, h => ⟨(), w, rfl, Same.refl w, h⟩
  | v :: vs, i, w, ⟨⟨⟨u, hc⟩, hf, ho⟩, hk⟩ => by
    unfold storeCells
    refine Goes.bind (store_goes hc hf ho ?_)
    exact (storeCells_goes a vs (i + 1) (w.setCell (a.add i) v) hk).mono fun _ _ ⟨hs, hk⟩ => ⟨(Same.set w _ _).trans hs, hk⟩
theorem oneCell_inj (s : Sc) (x : s.T) (h : okCell s x) : (s.inj x).oneCell' = true := by
  cases s <;> first | exact h | rfl
theorem stsP_put {a : Addr} {K : PP} : ∀ (l : List Sc) (t : Tup l) (i : Nat) (h : Heap), stsP a l t i K h → putP a (injs l t) i K h
  | [], _, _, _, hh => hh
  | s :: l, t, i, _, ⟨⟨hc, hf, ho⟩, hk⟩ => ⟨⟨hc, hf, oneCell_inj s t.1 ho⟩, stsP_put l t.2 (i + 1) _ hk⟩
theorem storeW_goes {P : Program} {t : TypeId} {a : Addr} {v : Value} {K : PP} {w : World} (h : storeW P t a v K w.heap) : Goes P (storeVar t a v) w (Beh w fun _ => K) := by
  unfold storeW at h
  cases hz : sameSize P t v.cells.toList.length with
  | false => rw [hz] at h; exact h.elim
  | true =>
    rw [hz] at h
    dsimp only at h
    have hsz : Goes P (sizeOf t) w fun n w' => n = v.cells.size ∧ w' = w := by
      unfold sameSize at hz
      split at hz
      · rename_i i hi
        exact Goes.size hi ⟨by simpa using Nat.eq_of_beq_eq_true hz, rfl⟩
      · cases hz
    have hp : putP a v.cells.toList 0 K w.heap := by
      cases hs : shOf P t with
      | none => rw [hs] at h; exact h.elim
      | some sh =>
        rw [hs] at h
        cases sh with
        | sc s =>
          dsimp only at h
          cases hx : s.proj v with
          | none => simp only [hx] at h; exact h.elim
          | some x =>
            simp only [hx] at h
            have e : s.inj x = v := s.inj_proj v x hx
            obtain ⟨⟨hc, hf, ho⟩, hk⟩ := h
            have ho' := oneCell_inj s x ho
            rw [e] at ho' hk
            have ec : v.cells.toList = [v] := by cases v <;> first | rfl | (simp [Value.oneCell'] at ho')
            rw [ec]
            have ea : a.add 0 = a := rfl
            exact ⟨by rw [ea]; exact ⟨hc, hf, ho'⟩, by rw [ea]; exact hk⟩
        | agg l =>
          dsimp only at h
          cases hx : projs l v.cells.toList with
          | none => simp only [hx] at h; exact h.elim
          | some x =>
            simp only [hx] at h
            have := stsP_put l x 0 _ h
            rwa [injs_projs l _ x hx] at this
    unfold storeVar
    refine Goes.bind (hsz.mono fun n w' ⟨e1, e2⟩ => ?_)
    subst e1 e2
    have : ¬ (v.cells.size ≠ v.cells.size) := fun e => e rfl
    rw [if_neg this]
    exact storeCells_goes a _ 0 w' hp
theorem loadCells_goes {P : Program} {a : Addr} {n : Nat} {l : List Value} {w : World} {R : Array Value → World → Prop} (hl : l.length = n)
    (hc : ∀ j v, l[j]? = some v → hcell w.heap (a.add j) = some v) (hr : R l.toArray w) : Goes P (loadCells a n) w R :=
  ⟨_, w, by rw [← hl]; exact run_loadCells_list (P := P) (w := w) a l (fun j v hj => hc j v hj), hr⟩
theorem firstCells_goes {P : Program} {size n : Nat} {p : Option Addr} {m c : Nat} {l : List Value} {w : World} {R : Array Value → World → Prop}
    (h : cellsAt w.heap p (n * size) l) (hr : R l.toArray w) : Goes P (Builtin.firstCells size n (.slice p m c)) w R := by
  cases p with
  | none =>
    simp only [cellsAt] at h
    subst h
    exact ⟨_, w, rfl, hr⟩
  | some a => exact loadCells_goes h.1 h.2 hr
theorem byteCells_eq (x : ByteArray) : (byteCells x.data.toList).toArray = x.data.map fun b => Value.int .u8 (b.toNat : Int) := by
  apply Array.ext'
  simp [byteCells]
theorem src_goes {P : Program} {size : Nat} {x : Value} {l : List Value} {w : World} {R : Array Value → World → Prop} (h : srcAt w.heap size x l)
    (hr : R l.toArray w) : Goes P (Builtin.firstCells size (srcLen x) x) w R := by
  cases x <;> try exact h.elim
  case slice p m c => exact firstCells_goes h hr
  case string s =>
    simp only [srcAt] at h
    subst h
    refine ⟨_, w, rfl, ?_⟩
    have e : s.extract 0 (srcLen (.string s)) = s := by
      apply ByteArray.ext
      have : srcLen (.string s) = s.data.size := by simp [srcLen]
      rw [this, ByteArray.data_extract]
      simp
    rw [e, ← byteCells_eq]
    exact hr
theorem lenOf_goes {P : Program} {size : Nat} {x : Value} {l : List Value} {w : World} {R : Nat → World → Prop} (h : srcAt w.heap size x l)
    (hr : R (srcLen x) w) : Goes P (Builtin.lenOf x) w R := by
  cases x <;> try exact h.elim
  case slice p m c => exact ⟨_, w, rfl, hr⟩
  case string s =>
    have e : srcLen (.string s) = s.size := by show s.data.toList.length = s.data.size; simp
    rw [e] at hr
    exact ⟨_, w, rfl, hr⟩
theorem zeroCells_eq (z : Array Value) (n : Nat) : Builtin.zeroCells z n = zrow z n := rfl
theorem growBy_le (need : Nat) : ∀ (r c : Nat), c < need → Builtin.growBy need r c ≤ 2 * need + 192
  | 0, c, h => by unfold Builtin.growBy; omega
  | r + 1, c, h => by
    unfold Builtin.growBy
    rw [if_neg (by omega)]
    by_cases h2 : c + (c + 768) / 4 < need
    · exact growBy_le need r _ h2
    · cases r with
      | zero => unfold Builtin.growBy; omega
      | succ r => unfold Builtin.growBy; rw [if_pos (by omega)]; omega
theorem nextslicecap_le (need c : Nat) (h : c < need) : Builtin.nextslicecap need c ≤ 2 * need + 192 := by
  unfold Builtin.nextslicecap
  split
  · omega
  · split
    · omega
    · exact growBy_le need 4 c h
theorem choose_any {P : Program} {need old : Nat} {e : TypeId} {w : World} {R : Nat → World → Prop} (hr : ∀ cap, need ≤ cap → R cap { w with drawn := w.drawn + 1 }) :
    Goes P (choose (.appendCap need old e)) w R := by
  refine ⟨_, _, run_choose P w _, ?_⟩
  exact hr _ (by simp only [Question.cut]; omega)
theorem choose_goes {P : Program} {need old : Nat} {e : TypeId} {w : World} {R : Nat → World → Prop} (hn : need < 2 ^ 63) (hr : ∀ cap, need ≤ cap → cap ≤ 9223372036854775807 → R cap { w with drawn := w.drawn + 1 }) :
    Goes P (choose (.appendCap need old e)) w R := by
  refine ⟨_, _, run_choose P w _, ?_⟩
  refine hr _ (by simp only [Question.cut]; omega) ?_
  simp only [Question.cut]
  have := Nat.mod_lt (w.tape w.drawn (.appendCap need old e)) (show 0 < 2 ^ 63 - need by omega)
  omega
theorem appP_goes {P : Program} {t xt e : TypeId} {inf : TypeInfo} {z : Array Value} {p : Option Addr} {n c : Nat} {x : Value} {K : Option Addr → Nat → Nat → PP} {ty : TypeId} {w : World} {dx : TypeDesc}
    (ht : P.underlying t = some (.slice e)) (hi : P.info? e = some inf) (hz : zeroOf P e = some z) (hb : inf.bytes ≠ 0) (hx : P.underlying xt = some dx) (hxn : ∀ k, dx ≠ .int k)
    (ts : Array TypeId) (vs : Array Value) (h1 : ts[0]? = some t) (h2 : ts[1]? = some xt) (h3 : vs[0]? = some (.slice p n c)) (h4 : vs[1]? = some x)
    (h : appP e inf.size inf.bytes z p n c x K w.heap) : Goes P (Builtin.append_ ts ty vs) w (Beh w fun v => fun h => ∃ q m c', v = .slice q m c' ∧ K q m c' h) := by
  obtain ⟨new, hsrc, hroom, hgrow⟩ := h
  unfold Builtin.append_
  simp only [h1, h2, h3, h4]
  refine Goes.bind (Goes.und ht ?_)
  refine Goes.bind (Goes.size hi ?_)
  refine Goes.bind (Goes.und hx ?_)
  refine Goes.bind (Goes.pure ?_)
  simp only [Bool.false_eq_true, if_false, Bool.not_false, if_true, false_or]
  refine Goes.bind (lenOf_goes hsrc ?_)
  by_cases hc : n + srcLen x ≤ c
  · rw [if_pos hc]
    refine Goes.bind (src_goes hsrc ?_)
    have hk := hroom hc
    cases p with
    | none => exact Goes.pure ⟨Same.refl w, _, _, _, rfl, hk⟩
    | some a =>
      refine Goes.bind ((storeCells_goes (a.add (n * inf.size)) new 0 w hk).mono fun _ w' ⟨hs, hk'⟩ => ?_)
      exact Goes.pure ⟨hs, _, _, _, rfl, hk'⟩
  · rw [if_neg hc]
    obtain ⟨hbound, old, hold, hk⟩ := hgrow (by omega)
    refine Goes.bind (Goes.ti hi ?_)
    rw [if_neg (by rintro ⟨_, h0⟩; exact hb h0)]
    refine Goes.bind (Goes.ti hi ?_)
    have hle : ¬ (Builtin.nextslicecap (n + srcLen x) c * inf.bytes > 2 ^ 48) := by
      have := Nat.mul_le_mul_right inf.bytes (nextslicecap_le (n + srcLen x) c (by omega))
      omega
    rw [if_neg hle]
    have hneed : n + srcLen x < 2 ^ 63 := by
      have := Nat.le_mul_of_pos_right (2 * (n + srcLen x) + 192) (Nat.pos_of_ne_zero hb)
      omega
    refine Goes.bind (choose_goes hneed fun cap hcap hmax => ?_)
    refine Goes.bind (Goes.ti hi ?_)
    refine Goes.bind (Goes.of_run (run_askRoom P _ _) ?_)
    refine Goes.bind (firstCells_goes (w := { w with drawn := w.drawn + 1 }) hold ?_)
    refine Goes.bind (src_goes (w := { w with drawn := w.drawn + 1 }) hsrc ?_)
    refine Goes.bind (Goes.zero hz fun v hv => ?_)
    refine Goes.bind ?_
    rw [← hv, zeroCells_eq]
    refine ⟨_, _, rfl, ?_⟩
    exact Goes.pure ⟨⟨rfl, rfl, rfl⟩, _, _, _, rfl, hk cap hcap hmax⟩
theorem buildR_goes {P : Program} {t : TypeId} {ps : Array (Nat × Value)} {K : Value → PP} {w : World} (h : buildR P t ps.toList K w.heap) : Goes P (Instr.build t ps) w (Beh w K) := by
  unfold buildR at h
  cases hz : zeroOf P t with
  | none => rw [hz] at h; exact h.elim
  | some z =>
    rw [hz] at h
    dsimp only at h
    unfold Instr.build
    refine Goes.bind (Goes.zero hz fun zv hzv => ?_)
    subst hzv
    cases ht : P.underlying t with
    | none => simp only [ht] at h; exact h.elim
    | some d =>
      simp only [ht] at h
      refine Goes.bind (Goes.und ht ?_)
      cases d <;> (try dsimp only at h ⊢) <;> try exact h.elim
      case struct fs =>
        cases hp : placesOf P fs.toList with
        | none => simp only [hp] at h; exact h.elim
        | some pl =>
          simp only [hp] at h
          have key : ∀ (l : List Field) (pl : List (Nat × Nat)), placesOf P l = some pl →
              (l.mapM (m := Sem) fun f => do pure (f.offset, ← sizeOf f.type)).run P w = .ok pl w := by
            intro l
            induction l with
            | nil => intro pl hpl; cases hpl; rfl
            | cons f r ih =>
              intro pl hpl
              simp only [placesOf] at hpl
              split at hpl
              · rename_i i hi
                split at hpl
                · rename_i q hq
                  cases hpl
                  simp only [List.mapM_cons, Sem.run_bind, sizeOf_run hi, Result.andThen_ok, Sem.run_pure, ih q hq]
                · cases hpl
              · cases hpl
          have hm : (fs.mapM (m := Sem) fun f => do pure (f.offset, ← sizeOf f.type)).run P w = .ok pl.toArray w := by
            rw [Array.mapM_eq_mapM_toList, Sem.run_map, key _ _ hp]; rfl
          refine Goes.bind (Goes.of_run hm ?_)
          have e : (fun i : Nat => pl.toArray[i]?) = (fun i : Nat => pl[i]?) := by funext i; simp
          rw [e]
          cases hf : Instr.fill (fun i : Nat => pl[i]?) zv.cells ps.toList with
          | none => simp only [hf] at h; exact h.elim
          | some cs => simp only [hf] at h ⊢; exact Goes.pure ⟨Same.refl w, h⟩
      case array n e =>
        cases hi : P.info? e with
        | none => simp only [hi] at h; exact h.elim
        | some i =>
          simp only [hi] at h
          refine Goes.bind (Goes.size hi ?_)
          cases hf : Instr.fill (fun j => some (j * i.size, i.size)) zv.cells ps.toList with
          | none => simp only [hf] at h; exact h.elim
          | some cs => simp only [hf] at h ⊢; exact Goes.pure ⟨Same.refl w, h⟩
theorem buildSliceW_goes {P : Program} {t : TypeId} {n : Nat} {ps : Array (Nat × Value)} {K : Value → PP} {w : World} (h : buildSliceW P t n ps.toList K w.heap) :
    Goes P (Instr.buildSlice t n ps) w (Beh w K) := by
  unfold buildSliceW at h
  cases ht : P.underlying t with
  | none => rw [ht] at h; exact h.elim
  | some d =>
    rw [ht] at h
    cases d <;> (try dsimp only at h) <;> try exact h.elim
    rename_i e
    cases hi : P.info? e with
    | none => simp only [hi] at h; exact h.elim
    | some i =>
      simp only [hi] at h
      cases hz : zeroOf P e with
      | none => simp only [hz] at h; exact h.elim
      | some z =>
        simp only [hz] at h
        cases hb : Nat.ble (n * i.size) 1000 with
        | false => rw [hb] at h; exact h.elim
        | true =>
          rw [hb] at h
          dsimp only at h
          have hb' : n * i.size ≤ 1000 := Nat.le_of_ble_eq_true hb
          unfold Instr.buildSlice
          refine Goes.bind (Goes.und ht ?_)
          refine Goes.bind (Goes.size hi ?_)
          rw [if_neg (by omega)]
          cases h0 : Nat.beq (n * i.size + ps.toList.length) 0 with
          | true =>
            rw [h0] at h
            dsimp only at h
            have h0' := Nat.eq_of_beq_eq_true h0
            have hn : n * i.size = 0 := by omega
            have hp : ps.toList = [] := List.eq_nil_of_length_eq_zero (by omega)
            rw [if_pos hn]
            refine Goes.bind (Goes.pure ?_)
            rw [hp, hn]
            simp only [Instr.fill]
            have er : ((Array.range 0).map fun j => (#[] : Array Value)[j % (#[] : Array Value).size]!) = #[] := by simp
            rw [er]
            have h2 : Goes P (newRow e #[]) w (Beh w _) := newRow_goes (cs := []) h
            exact Goes.bind (h2.mono fun a w' hh => Goes.pure ⟨hh.1, hh.2⟩)
          | false =>
            rw [h0] at h
            dsimp only at h
            cases hf : Instr.fill (fun j => some (j * i.size, i.size)) ((Array.range (n * i.size)).map (z[· % z.size]!)) ps.toList with
            | none => simp only [hf] at h; exact h.elim
            | some cs =>
              simp only [hf] at h
              have h2 : Goes P (newRow e cs) w (Beh w _) := newRow_goes (cs := cs.toList) h
              by_cases hn : n * i.size = 0
              · rw [if_pos hn]
                refine Goes.bind (Goes.pure ?_)
                have e1 : ((Array.range (n * i.size)).map fun j => (#[] : Array Value)[j % (#[] : Array Value).size]!) = ((Array.range (n * i.size)).map fun j => z[j % z.size]!) := by
                  rw [hn]; simp
                dsimp only
                rw [e1]
                simp only [hf]
                exact Goes.bind (h2.mono fun a w' hh => Goes.pure ⟨hh.1, hh.2⟩)
              · rw [if_neg hn]
                refine Goes.bind (Goes.zero hz fun zv hzv => ?_)
                refine Goes.bind (Goes.pure ?_)
                subst hzv
                simp only [hf]
                exact Goes.bind (h2.mono fun a w' hh => Goes.pure ⟨hh.1, hh.2⟩)
theorem mkSlP_goes {P : Program} {t : TypeId} {l c : Value} {K : Value → PP} {w : World} (h : makeSliceW P t l c K w.heap) : Goes P (Instr.makeSlice t l c) w (Beh w K) := by
  unfold makeSliceW at h
  cases ht : P.underlying t with
  | none => rw [ht] at h; exact h.elim
  | some d =>
    rw [ht] at h
    cases d <;> (try dsimp only at h) <;> try exact h.elim
    rename_i e
    cases hi : P.info? e with
    | none => simp only [hi] at h; exact h.elim
    | some i =>
      simp only [hi] at h
      cases hz : zeroOf P e with
      | none => simp only [hz] at h; exact h.elim
      | some z =>
        simp only [hz] at h
        cases hb : Nat.beq z.toList.length i.size with
        | false => rw [hb] at h; exact h.elim
        | true =>
          rw [hb] at h
          have hzs : z.size = i.size := by have := Nat.eq_of_beq_eq_true hb; simpa using this
          cases l <;> (try dsimp only at h) <;> try exact h.elim
          rename_i kl l
          cases c <;> (try dsimp only at h) <;> try exact h.elim
          rename_i kc c
          obtain ⟨⟨h1, h2, h3, h4⟩, hk⟩ := h
          have wl : IntKind.i64.wrap l = l := by have := IntWalk.i64_in l ⟨by omega, by omega⟩; exact this
          have wc : IntKind.i64.wrap c = c := by have := IntWalk.i64_in c ⟨by omega, by omega⟩; exact this
          unfold Instr.makeSlice
          refine Goes.bind (Goes.und ht ?_)
          refine Goes.bind (Goes.pure ?_)
          refine Goes.bind (Goes.pure ?_)
          refine Goes.bind (Goes.ti hi ?_)
          rw [wl, wc]
          have t1 : (decide (c < 0) || decide ((i.bytes : Int) * c > 2 ^ 48)) = false := by
            rw [Bool.or_eq_false_iff]; exact ⟨decide_eq_false (by omega), decide_eq_false (by omega)⟩
          have t2 : ((decide (c < 0) || decide ((i.bytes : Int) * c > 2 ^ 48)) || decide (l < 0) || decide (l > c)) = false := by
            rw [t1, Bool.false_or, Bool.or_eq_false_iff]; exact ⟨decide_eq_false (by omega), decide_eq_false (by omega)⟩
          rw [if_neg (by
            intro hh
            exact absurd (t2.symm.trans hh) (by simp))]
          refine Goes.bind (Goes.of_run (run_askRoom P w _) ?_)
          refine Goes.bind (Goes.size hi ?_)
          have h2 : Goes P (newRow e (zrow z c.toNat)) w (Beh w fun a => K (.slice (some a) l.toNat c.toNat)) := newRow_goes (cs := (zrow z c.toNat).toList) (by simpa [newP] using hk)
          have ez : zrow z c.toNat = ((Array.range (c.toNat * i.size)).map (z[· % z.size]!)) := by rw [← hzs]; rfl
          by_cases hn : c.toNat * i.size = 0
          · rw [if_pos hn]
            refine Goes.bind (Goes.pure ?_)
            have e1 : ((Array.range (c.toNat * i.size)).map fun j => (#[] : Array Value)[j % (#[] : Array Value).size]!) = zrow z c.toNat := by
              rw [ez, hn]; simp
            dsimp only
            rw [e1]
            exact Goes.bind (h2.mono fun a w' hh => Goes.pure ⟨hh.1, hh.2⟩)
          · rw [if_neg hn]
            refine Goes.bind (Goes.zero hz fun zv hzv => ?_)
            refine Goes.bind (Goes.pure ?_)
            dsimp only
            rw [← hzv, ← ez]
            exact Goes.bind (h2.mono fun a w' hh => Goes.pure ⟨hh.1, hh.2⟩)
end Go.Shal
end
section
namespace Go.Shal
open Go
theorem convW_goes {P : Program} {src dst : TypeId} {v : Value} {K : Value → PP} {w : World} (h : convW P src dst v K w.heap) : Goes P (convert src dst v) w (Beh w K) := by
  unfold convW at h
  cases hs : P.underlying src with
  | none => rw [hs] at h; exact h.elim
  | some ds =>
    rw [hs] at h
    cases ds <;> (try dsimp only at h) <;> try exact h.elim
    cases hd : P.underlying dst with
    | none => simp only [hd] at h; exact h.elim
    | some dd =>
      simp only [hd] at h
      cases dd <;> (try dsimp only at h) <;> try exact h.elim
      rename_i e
      cases he : P.underlying e with
      | none => simp only [he] at h; exact h.elim
      | some de =>
        simp only [he] at h
        cases de <;> (try dsimp only at h) <;> try exact h.elim
        rename_i k
        cases k <;> (try dsimp only at h) <;> try exact h.elim
        cases v <;> (try dsimp only at h) <;> try exact h.elim
        rename_i x
        unfold convert
        refine Goes.bind (Goes.und hs ?_)
        refine Goes.bind (Goes.und hd ?_)
        dsimp only
        refine Goes.bind (Goes.und he ?_)
        dsimp only
        unfold Conv.stringToBytes
        have es : x.data.toList.length = x.size := by show x.data.toList.length = x.data.size; simp
        refine Goes.bind (choose_any fun cap hcap => ?_)
        have hk := h cap (by rw [es]; exact hcap)
        have ec : ((x.data.map fun b => Value.int .u8 (b.toNat : Int)) ++ Array.replicate (cap - x.size) (Value.int .u8 0)) = (byteCells x.data.toList ++ List.replicate (cap - x.data.toList.length) (Value.int .u8 0)).toArray := by
          rw [es]
          apply Array.ext'
          simp [byteCells]
        have hsz : (byteCells x.data.toList ++ List.replicate (cap - x.data.toList.length) (Value.int .u8 0)).toArray.size = cap := by
          simp only [List.size_toArray, List.length_append, List.length_replicate, byteCells, List.length_map]; omega
        refine Goes.bind ⟨⟨w.heap.size, 0, none⟩, { w with heap := w.heap.push (.cells (byteCells x.data.toList ++ List.replicate (cap - x.data.toList.length) (Value.int .u8 0)).toArray e), drawn := w.drawn + 1 }, ?_, ?_⟩
        · show (newRow e ((x.data.map fun b => Value.int .u8 (b.toNat : Int)) ++ Array.replicate (cap - x.size) (Value.int .u8 0))).run P _ = _
          rw [ec]; rfl
        · have hm : Goes P (markStringish ⟨w.heap.size, 0, none⟩) { w with heap := w.heap.push (.cells (byteCells x.data.toList ++ List.replicate (cap - x.data.toList.length) (Value.int .u8 0)).toArray e), drawn := w.drawn + 1 }
              fun _ w' => w' = { w with heap := w.heap.push (.cells (byteCells x.data.toList ++ List.replicate (cap - x.data.toList.length) (Value.int .u8 0)).toArray e (cap, cap + 1)), drawn := w.drawn + 1 } := by
            unfold markStringish
            refine Goes.bind ⟨_, _, run_shape P _ _, ?_⟩
            simp only [World.shape?, Array.getElem?_push_size]
            rw [hsz]
            refine ⟨(), _, run_freeze P _ _ _, ?_⟩
            simp only [World.freeze]
            rw [if_neg (by simp)]
            congr 1
            apply Array.ext (by simp)
            intro i h1 h2
            simp only [Array.getElem_modify, Array.getElem_push]
            by_cases hi : w.heap.size = i
            · subst hi; simp
            · rw [if_neg hi]
              have : i < w.heap.size := by simp at h1; omega
              simp [this]
          refine Goes.bind (hm.mono fun _ w' hw' => ?_)
          subst hw'
          rw [← es]
          exact Goes.pure ⟨⟨rfl, rfl, rfl⟩, hk⟩
theorem copyW_goes {P : Program} {ts : Array TypeId} {vs : List Value} {ty : TypeId} {K : Value → PP} {w : World} (h : copyW P ts vs K w.heap) : Goes P (Builtin.copy_ ts ty vs.toArray) w (Beh w K) := by
  unfold copyW at h
  cases ht : ts.toList with
  | nil => rw [ht] at h; exact h.elim
  | cons t tr =>
    rw [ht] at h
    dsimp only at h
    have h1 : ts[0]? = some t := by rw [← Array.getElem?_toList, ht]; rfl
    cases hu : P.underlying t with
    | none => simp only [hu] at h; exact h.elim
    | some d =>
      simp only [hu] at h
      cases d <;> (try dsimp only at h) <;> try exact h.elim
      rename_i e
      cases hi : P.info? e with
      | none => simp only [hi] at h; exact h.elim
      | some i =>
        simp only [hi] at h
        cases vs with
        | nil => exact h.elim
        | cons d vs =>
          cases vs with
          | nil => exact h.elim
          | cons x vs =>
            cases d <;> (try dsimp only at h) <;> try exact h.elim
            rename_i p n c
            obtain ⟨new, hsrc, hlen, hk⟩ := h
            unfold Builtin.copy_
            simp only [h1, List.getElem?_toArray, List.getElem?_cons_zero, List.getElem?_cons_succ]
            refine Goes.bind (Goes.und hu ?_)
            refine Goes.bind (lenOf_goes hsrc ?_)
            refine Goes.bind (Goes.size hi ?_)
            have hfirst : Goes P (Builtin.firstCells i.size (Nat.min (srcLen x) n) x) w fun v w' => v = (new.take (min (srcLen x) n * i.size)).toArray ∧ w' = w := by
              have hle : min (srcLen x) n * i.size ≤ srcLen x * i.size := Nat.mul_le_mul_right _ (Nat.min_le_left _ _)
              cases x <;> try exact hsrc.elim
              case slice q m cc =>
                cases q with
                | none =>
                  simp only [srcAt, cellsAt] at hsrc
                  subst hsrc
                  exact ⟨_, w, rfl, by simp, rfl⟩
                | some a =>
                  refine loadCells_goes (by rw [List.length_take, hlen]; exact Nat.min_eq_left hle) (fun j v hj => ?_) ⟨rfl, rfl⟩
                  rw [List.getElem?_take] at hj
                  split at hj
                  · exact hsrc.2 j v hj
                  · cases hj
              case string s =>
                simp only [srcAt] at hsrc
                refine ⟨_, w, rfl, ?_, rfl⟩
                have hl2 : new.length = s.data.size := by rw [hsrc]; simp [byteCells]
                have hl3 : new.length = srcLen (.string s) * i.size := hlen
                have e0 : srcLen (.string s) = s.data.size := by simp [srcLen]
                apply Array.ext'
                simp only [Array.toList_map, ByteArray.data_extract, Array.toList_extract, List.extract_eq_take_drop, List.drop_zero, Nat.sub_zero]
                rw [hsrc]
                simp only [byteCells, List.map_take]
                by_cases hz : i.size = 1
                · rw [hz, Nat.mul_one]
                · have : s.data.size = 0 := by
                    rw [e0] at hl3
                    rw [hl2] at hl3
                    rcases Nat.lt_or_ge i.size 1 with h | h
                    · have : i.size = 0 := by omega
                      rw [this] at hl3; simpa using hl3
                    · rcases Nat.eq_zero_or_pos s.data.size with h' | h'
                      · exact h'
                      · have : 2 ≤ i.size := by omega
                        have := Nat.mul_le_mul_left s.data.size this
                        omega
                  have : s.data.toList = [] := List.eq_nil_of_length_eq_zero (by simpa using this)
                  simp [this]
            refine Goes.bind (hfirst.mono fun v w' hv => ?_)
            obtain ⟨rfl, rfl⟩ := hv
            cases p with
            | none => exact Goes.pure ⟨Same.refl _, hk⟩
            | some a =>
              dsimp only at hk ⊢
              refine Goes.bind ((storeCells_goes a _ 0 w' hk).mono fun _ w2 hh => ?_)
              exact Goes.pure ⟨hh.1, hh.2⟩
/-! ### Maps -/
theorem getObj_goes {P : Program} {r : Nat} {o : Obj} {w : World} {R : Obj → World → Prop} (h : w.heap[r]? = some o) (hc : ∀ c e f, o ≠ .cells c e f) (hr : R o w) : Goes P (getObj r) w R := by
  refine ⟨o, w, ?_, hr⟩
  unfold getObj
  simp only [Sem.run, h]
theorem setObj_goes {P : Program} {r : Nat} {o o' : Obj} {w : World} {R : Unit → World → Prop} (h : w.heap[r]? = some o) (hc : ∀ c e f, o ≠ .cells c e f)
    (hr : R () { w with heap := w.heap.setIfInBounds r o' }) : Goes P (setObj r o') w R := by
  refine ⟨(), _, ?_, hr⟩
  unfold setObj
  simp only [Sem.run, h]
theorem mapEl_elim {P : Program} {t : TypeId} {s : Sc} (h : mapEl P t = some s) : ∃ k e, P.underlying t = some (.map k e) ∧ P.underlying k = some .string ∧ scOf P e = some s := by
  unfold mapEl at h
  split at h
  · rename_i k e ht
    split at h
    · rename_i hk; exact ⟨k, e, ht, hk, h⟩
    · cases h
  · cases h
theorem checkKey_goes {P : Program} {k : TypeId} {b : Bool} {x : ByteArray} {w : World} {R : Unit → World → Prop} (hk : P.underlying k = some .string) (hr : R () w) :
    Goes P (Instr.checkKey b 10000 k (.string x)) w R := by
  show Goes P (Instr.checkKey b (9999 + 1) k (.string x)) w R
  rw [Instr.checkKey]
  exact Goes.bind (Goes.und hk (Goes.pure hr))
theorem findNow_spec (x : ByteArray) : ∀ (es : List MapEntry) (i : Nat), (∀ e ∈ es, ∃ k : Bytes, e.key = .string (bs k)) →
    Instr.findNow .string (.string x) es i = some (match es.findIdx? (isKey x.data.toList) with
      | some j => (es[j]?).map fun e => (i + j, e.val)
      | none => none)
  | [], i, _ => rfl
  | e :: es, i, h => by
    obtain ⟨k, hk⟩ := h e (by simp)
    have hb : (x == bs k) = (x.data.toList == k) := by rw [beq_toListBytes, toList_data, toList_data]; rfl
    have hi : isKey x.data.toList e = (x.data.toList == k) := by unfold isKey; rw [hk]; rfl
    unfold Instr.findNow
    rw [hk]
    simp only [Instr.sameNow, hb, List.findIdx?_cons, hi]
    cases x.data.toList == k with
    | true => simp
    | false =>
      simp only [Bool.false_eq_true, if_false]
      rw [findNow_spec x es (i + 1) (fun e he => h e (by simp [he]))]
      cases es.findIdx? (isKey x.data.toList) with
      | none => rfl
      | some j => simp only [Option.map_some, List.getElem?_cons_succ]; congr 1; rw [Nat.add_assoc, Nat.add_comm 1 j]
theorem find_findIdx (p : MapEntry → Bool) : ∀ es : List MapEntry, (match es.findIdx? p with
      | some j => es[j]?
      | none => none) = es.find? p
  | [] => rfl
  | e :: es => by
    simp only [List.findIdx?_cons, List.find?_cons]
    cases p e with
    | true => rfl
    | false =>
      simp only [Bool.false_eq_true, if_false]
      rw [← find_findIdx p es]
      cases es.findIdx? p <;> rfl
theorem findKey_goes {P : Program} {k : TypeId} {x : ByteArray} {es : List MapEntry} {w : World} {R : Option (Nat × Value) → World → Prop} (hk : P.underlying k = some .string)
    (hs : ∀ e ∈ es, ∃ k : Bytes, e.key = .string (bs k)) (hr : R (match es.findIdx? (isKey x.data.toList) with
      | some j => (es[j]?).map fun e => (j, e.val)
      | none => none) w) : Goes P (Instr.findKey k (.string x) es) w R := by
  unfold Instr.findKey
  refine Goes.bind (Goes.und hk ?_)
  rw [findNow_spec x es 0 hs]
  refine Goes.pure ?_
  have e : (match es.findIdx? (isKey x.data.toList) with
      | some j => (es[j]?).map fun e : MapEntry => (0 + j, e.val)
      | none => none) = (match es.findIdx? (isKey x.data.toList) with
      | some j => (es[j]?).map fun e : MapEntry => (j, e.val)
      | none => none) := by
    cases es.findIdx? (isKey x.data.toList) with
    | none => rfl
    | some j => simp only [Nat.zero_add]
  rw [e]
  exact hr
end Go.Shal
end
section
namespace Go.Shal
open Go
theorem mapNotCells {es : Array MapEntry} {clock : Nat} : ∀ c e f, Obj.map es clock ≠ .cells c e f := by intro _ _ _ h; cases h
theorem iterNotCells {m : Option Nat} {s : Nat} {q : Array Nat} {l : Nat} : ∀ c e f, Obj.mapIter m s q l ≠ .cells c e f := by intro _ _ _ h; cases h
theorem lookW_goes {P : Program} {t : TypeId} {m k : Value} {ok : Bool} {K : Value → PP} {w : World} (h : lookW P (fun p => p w.heap) t m k ok K w.heap) :
    Goes P (Instr.lookup t m k ok) w (Beh w K) := by
  unfold lookW at h
  cases he : mapEl P t with
  | none => rw [he] at h; exact h.elim
  | some s =>
    rw [he] at h
    obtain ⟨kt, et, ht, hk, hs⟩ := mapEl_elim he
    dsimp only at h
    cases hz : mapZero P t with
    | none => simp only [hz] at h; exact h.elim
    | some z =>
      simp only [hz] at h
      cases hp : s.proj z with
      | none => simp only [hp] at h; exact h.elim
      | some zx =>
        simp only [hp] at h
        have ez : s.inj zx = z := s.inj_proj z zx hp
        cases m <;> (try dsimp only at h) <;> try exact h.elim
        rename_i m
        cases k <;> (try dsimp only at h) <;> try exact h.elim
        rename_i x
        have hzero : ∀ w : World, Goes P (zeroValue et) w fun v w' => v = z ∧ w' = w := fun w => by
          unfold mapZero at hz
          simp only [ht] at hz
          split at hz
          · rename_i i hi
            unfold zeroValue
            refine Goes.bind (Goes.ti hi ?_)
            rw [hz]
            exact Goes.pure ⟨rfl, rfl⟩
          · cases hz
        have fin : ∀ (v : Value) (b : Bool), (match ok with
            | true => K (.tuple #[v, .bool b])
            | false => K v) w.heap → Beh w K (if ok = true then .tuple #[v, .bool b] else v) w := by
          intro v b hk
          cases ok
          · exact ⟨Same.refl w, hk⟩
          · exact ⟨Same.refl w, hk⟩
        unfold Instr.lookup
        refine Goes.bind (Goes.und ht ?_)
        dsimp only
        rcases h with ⟨rfl, hK⟩ | ⟨r, es, clock, rfl, hm, hsk, hK⟩
        · refine Goes.bind (Goes.pure ?_)
          refine Goes.bind (checkKey_goes hk ?_)
          refine Goes.bind (findKey_goes hk (by simp) ?_)
          refine Goes.bind ((hzero w).mono fun v w' hv => ?_)
          obtain ⟨rfl, rfl⟩ := hv
          refine Goes.bind (Goes.pure ?_)
          refine Goes.pure ?_
          exact fin v false (by rw [← ez]; exact hK)
        · refine Goes.bind (getObj_goes hm mapNotCells ?_)
          refine Goes.bind (Goes.pure ?_)
          refine Goes.bind (checkKey_goes hk ?_)
          refine Goes.bind (findKey_goes hk hsk ?_)
          rw [← find_findIdx] at hK
          cases hf : es.toList.findIdx? (isKey x.data.toList) with
          | none =>
            rw [hf] at hK
            refine Goes.bind ((hzero w).mono fun v w' hv => ?_)
            obtain ⟨rfl, rfl⟩ := hv
            refine Goes.bind (Goes.pure ?_)
            refine Goes.pure ?_
            exact fin v false (by rw [← ez]; exact hK)
          | some j =>
            rw [hf] at hK
            dsimp only at hK ⊢
            cases hj : es.toList[j]? with
            | none =>
              exfalso
              have := (List.findIdx?_eq_some_iff_getElem.1 hf).1
              rw [List.getElem?_eq_none_iff] at hj
              omega
            | some e =>
              rw [hj] at hK
              obtain ⟨v, hv, hK⟩ := hK
              refine Goes.bind (Goes.pure ?_)
              refine Goes.pure ?_
              rw [hv]
              exact fin _ true hK
theorem updP_goes {P : Program} {t : TypeId} {s : Sc} (he : mapEl P t = some s) {m : Option Nat} {x : ByteArray} {v : Value} {K : PP} {w : World} (h : updP m x.data.toList v K w.heap) :
    Goes P (Instr.mapUpdate t (.map m) (.string x) v) w (Beh w fun _ => K) := by
  obtain ⟨kt, et, ht, hk, hs⟩ := mapEl_elim he
  obtain ⟨r, es, clock, rfl, hm, hsk, hK⟩ := h
  unfold Instr.mapUpdate
  refine Goes.bind (Goes.und ht ?_)
  dsimp only
  refine Goes.bind (getObj_goes hm mapNotCells ?_)
  dsimp only
  refine Goes.bind (checkKey_goes hk ?_)
  refine Goes.bind (findKey_goes hk hsk ?_)
  have ex : x = bs x.data.toList := by apply ByteArray.ext; rfl
  unfold putE at hK
  cases hf : es.toList.findIdx? (isKey x.data.toList) with
  | none =>
    rw [hf] at hK
    dsimp only at hK ⊢
    rw [ex]
    exact setObj_goes hm mapNotCells ⟨⟨rfl, rfl, rfl⟩, hK⟩
  | some j =>
    rw [hf] at hK
    dsimp only at hK ⊢
    cases hj : es.toList[j]? with
    | none =>
      exfalso
      have := (List.findIdx?_eq_some_iff_getElem.1 hf).1
      rw [List.getElem?_eq_none_iff] at hj
      omega
    | some e =>
      dsimp only [Option.map_some]
      have hj' : es[j]? = some e := by simpa using hj
      rw [hj']
      obtain ⟨hlt, hp, _⟩ := List.findIdx?_eq_some_iff_getElem.1 hf
      have hee : es.toList[j] = e := by rw [List.getElem?_eq_getElem hlt] at hj; exact Option.some.inj hj
      rw [hee] at hp
      obtain ⟨k0, hk0⟩ := hsk e (by rw [← hee]; exact List.getElem_mem hlt)
      have hkey : e.key = .string x := by
        unfold isKey at hp
        rw [hk0] at hp ⊢
        have : x.data.toList = k0 := by simpa [bs] using hp
        rw [← this, ← ex]
      have hkeep : Goes P (Instr.keyThatStays (((some e).map (·.key)).getD (.string x)) (.string x)) w fun v w' => v = .string x ∧ w' = w := by
        unfold Instr.keyThatStays
        have : Instr.sameBits 10000 (((some e).map (·.key)).getD (.string x)) (.string x) = true := by
          simp only [Option.map_some, Option.getD_some, hkey]
          show (x == x) = true
          rw [beq_toListBytes]; simp
        rw [if_pos this]
        exact Goes.pure ⟨rfl, rfl⟩
      refine Goes.bind (hkeep.mono fun v' w' hv => ?_)
      obtain ⟨rfl, rfl⟩ := hv
      rw [ex]
      exact setObj_goes hm mapNotCells ⟨⟨rfl, rfl, rfl⟩, hK⟩
theorem delP_goes {P : Program} {t : TypeId} {s : Sc} (he : mapEl P t = some s) {m : Option Nat} {x : ByteArray} {K : Value → PP} {w : World} {ts : Array TypeId} {vs : Array Value} {ty : TypeId}
    (h1 : ts[0]? = some t) (h2 : vs[0]? = some (.map m)) (h3 : vs[1]? = some (.string x)) (h : delP m x.data.toList (K (.tuple #[])) w.heap) :
    Goes P (Builtin.delete_ ts ty vs) w (Beh w K) := by
  obtain ⟨kt, et, ht, hk, hs⟩ := mapEl_elim he
  unfold Builtin.delete_
  simp only [h1, h2, h3]
  refine Goes.bind (Goes.und ht ?_)
  dsimp only
  rcases h with ⟨rfl, hK⟩ | ⟨r, es, clock, rfl, hm, hsk, hK⟩
  · refine Goes.bind (checkKey_goes hk ?_)
    exact Goes.pure ⟨Same.refl w, hK⟩
  · refine Goes.bind (getObj_goes hm mapNotCells ?_)
    dsimp only
    refine Goes.bind (checkKey_goes hk ?_)
    refine Goes.bind (findKey_goes hk hsk ?_)
    unfold dropE at hK
    cases hf : es.toList.findIdx? (isKey x.data.toList) with
    | none =>
      rw [hf] at hK
      dsimp only at hK ⊢
      refine Goes.bind (setObj_goes hm mapNotCells ?_)
      exact Goes.pure ⟨⟨rfl, rfl, rfl⟩, hK⟩
    | some j =>
      rw [hf] at hK
      dsimp only at hK ⊢
      cases hj : es.toList[j]? with
      | none =>
        exfalso
        have := (List.findIdx?_eq_some_iff_getElem.1 hf).1
        rw [List.getElem?_eq_none_iff] at hj
        omega
      | some e =>
        dsimp only [Option.map_some]
        refine Goes.bind (setObj_goes hm mapNotCells ?_)
        exact Goes.pure ⟨⟨rfl, rfl, rfl⟩, hK⟩
theorem lenMP_goes {P : Program} {t : TypeId} {s : Sc} (he : mapEl P t = some s) {m : Option Nat} {K : Value → PP} {w : World} {ts : Array TypeId} {vs : Array Value} {ty : TypeId}
    (h1 : ts[0]? = some t) (h2 : vs[0]? = some (.map m)) (h : lenMP (fun p => p w.heap) m (fun n => K (.int .i64 n)) w.heap) : Goes P (Builtin.len_ ts ty vs) w (Beh w K) := by
  obtain ⟨kt, et, ht, hk, hs⟩ := mapEl_elim he
  unfold Builtin.len_
  simp only [h1, h2]
  refine Goes.bind (Goes.und ht ?_)
  rcases h with ⟨rfl, hK⟩ | ⟨r, es, clock, rfl, hm, hK⟩
  · exact Goes.pure ⟨Same.refl w, hK⟩
  · dsimp only
    refine Goes.bind (getObj_goes hm mapNotCells ?_)
    exact Goes.pure ⟨Same.refl w, hK⟩
theorem newObj_goes {P : Program} {o : Obj} {w : World} {R : Nat → World → Prop} (h : R w.heap.size { w with heap := w.heap.push o }) : Goes P (newObj o) w R := ⟨_, _, run_newObj P w o, h⟩
theorem rangeMP_goes {P : Program} {t : TypeId} {s : Sc} (he : mapEl P t = some s) {m : Option Nat} {K : Value → PP} {w : World} (h : rangeMP m (fun a => K (.pointer (some a))) w.heap) :
    Goes P (Instr.range t (.map m)) w (Beh w K) := by
  obtain ⟨kt, et, ht, hk, hs⟩ := mapEl_elim he
  unfold Instr.range
  refine Goes.bind (Goes.und ht ?_)
  rcases h with ⟨rfl, hK⟩ | ⟨r, es, clock, rfl, hm, hK⟩
  · refine Goes.bind (Goes.pure ?_)
    refine Goes.bind (newObj_goes ?_)
    exact Goes.pure ⟨⟨rfl, rfl, rfl⟩, hK⟩
  · dsimp only
    refine Goes.bind (getObj_goes hm mapNotCells ?_)
    refine Goes.bind (Goes.pure ?_)
    refine Goes.bind (newObj_goes ?_)
    exact Goes.pure ⟨⟨rfl, rfl, rfl⟩, hK⟩
theorem chooseNext_goes {P : Program} {n : Nat} (hn : 0 < n) {w : World} {R : Nat → World → Prop} (hr : ∀ i w', i < n → Same w w' → w'.heap = w.heap → R i w') : Goes P (choose (.mapNext n)) w R := by
  refine ⟨if (Question.mapNext n).forced then 0 else (Question.mapNext n).cut (w.tape w.drawn (.mapNext n)), if (Question.mapNext n).forced then w else { w with drawn := w.drawn + 1 }, ?_, ?_⟩
  · rw [run_choose]; split <;> rfl
  · split
    · exact hr _ _ hn (Same.refl w) rfl
    · exact hr _ _ (Nat.mod_lt _ hn) ⟨rfl, rfl, rfl⟩ rfl
theorem nextMP_goes {P : Program} {a : Addr} {F : PP} {K : MapEntry → PP} {K' : Value → PP} {ty : TypeId} {w : World} (hF : F = K' (.tuple #[.bool false])) (hK' : ∀ e, K e = K' (.tuple #[.bool true, e.key, e.val]))
    (h : nextMP a F K w.heap) : Goes P (Instr.next (.pointer (some a)) false ty) w (Beh w K') := by
  obtain ⟨h0, h⟩ := h
  obtain ⟨b, off, spot⟩ := a
  simp only at h0
  subst h0
  unfold Instr.next
  dsimp only
  rcases h with ⟨s, q, l, hb, hk⟩ | ⟨r, since, seen, last, es, hb, hm, hborn, hok, hdone, hstep⟩
  · refine Goes.bind (getObj_goes hb iterNotCells ?_)
    dsimp only
    exact Goes.pure ⟨Same.refl w, by rw [← hF]; exact hk⟩
  · refine Goes.bind (getObj_goes hb iterNotCells ?_)
    dsimp only
    refine Goes.bind (getObj_goes hm mapNotCells ?_)
    dsimp only
    have hc : ¬ ((!seen.isEmpty && !es.isEmpty && es.all (·.born ≥ last)) = true) := by
      intro hh
      simp only [Bool.and_eq_true, Bool.not_eq_true'] at hh
      rcases hok with h1 | h1 | ⟨e, he, hlt⟩
      · rw [h1] at hh; exact absurd hh.1.1 (by simp)
      · rw [h1] at hh; exact absurd hh.1.2 (by simp)
      · have := Array.all_eq_true_iff_forall_mem.1 hh.2 e (by simpa using he)
        simp at this; omega
    rw [if_neg hc]
    have hold : ((es.filter fun e => !seen.contains e.born).filter fun e => decide (e.born < since)) = leftE es seen := by
      apply Array.filter_eq_self.2
      intro e he
      have : e ∈ es := (Array.mem_filter.1 he).1
      simpa using hborn e (by simpa using this)
    have hnew : ((es.filter fun e => !seen.contains e.born).filter fun e => decide (e.born ≥ since)) = #[] := by
      apply Array.filter_eq_empty_iff.2
      intro e he
      have : e ∈ es := (Array.mem_filter.1 he).1
      have := hborn e (by simpa using this)
      simp; omega
    rw [hold, hnew, Array.append_empty]
    refine Goes.bind (chooseNext_goes ?_ fun i w' hi hsame hheap => ?_)
    · cases he : (leftE es seen).isEmpty with
      | true => simp; omega
      | false =>
        have : (leftE es seen).size ≠ 0 := by simpa using he
        simp; omega
    · cases he : (leftE es seen).isEmpty with
      | true =>
        have he' : leftE es seen = #[] := by simpa using he
        rw [he'] at hi ⊢
        have : i = 0 := by simpa using hi
        subst this
        simp only [if_true, Array.map_empty, Array.append_empty, List.getElem?_toArray, List.getElem?_cons_zero]
        exact Goes.pure ⟨hsame, by rw [hheap, ← hF]; exact hdone he'⟩
      | false =>
        rw [he] at hi
        simp only [Bool.false_eq_true, if_false, Array.empty_append, Array.size_map] at hi ⊢
        rw [Array.getElem?_map, Array.getElem?_eq_getElem hi]
        simp only [Option.map_some]
        have hstep' := hstep (leftE es seen)[i] (by simp)
        refine Goes.bind (setObj_goes (w := w') (by rw [hheap]; exact hb) iterNotCells ?_)
        refine Goes.pure ⟨⟨hsame.tape, hsame.os, hsame.output⟩, ?_⟩
        rw [hK'] at hstep'
        show K' _ (w'.heap.setIfInBounds _ _)
        rw [hheap]
        exact hstep'
theorem entryMP_goes {P : Program} {a : Addr} {s : Sc} {K : Bytes → s.T → PP} {K' : Value → PP} {w : World} (hK' : ∀ k x, K k x = K' (.tuple #[.string (bs k), s.inj x]))
    (h : entryMP (fun p => p w.heap) a s K w.heap) : Goes P (Instr.entry (.pointer (some a))) w (Beh w K') := by
  obtain ⟨h0, r, since, seen, last, es, stamp, ⟨hb, hm⟩, hst, e, he, k, x, hk, hx, hK⟩ := h
  obtain ⟨b, off, spot⟩ := a
  simp only at h0
  subst h0
  unfold Instr.entry
  dsimp only
  refine Goes.bind (getObj_goes hb iterNotCells ?_)
  dsimp only
  rw [hst]
  dsimp only
  refine Goes.bind (getObj_goes hm mapNotCells ?_)
  dsimp only
  rw [if_neg (by simp), he]
  dsimp only
  exact Goes.pure ⟨Same.refl w, by rw [hk, hx, ← hK']; exact hK⟩
/-- What an operation comes to, as the walk's rule asks for it. -/
def OGo (P : Program) (o : Oper) (a : Act) (w : World) (R : Value → World → Prop) : Prop :=
  match (execOp a.eval o).run P w with
  | .ok (.value v) w' => R v w'
  | .ok .skip w' => R undef w'
  | .ok (.enter f args) w' => Calls P f args w' fun e w'' => ∃ v, e = .returned v ∧ R v w''
  | _ => False
theorem OGo.value {P : Program} {o : Oper} {a : Act} {w : World} {R : Value → World → Prop} {s : Sem Value} (he : execOp a.eval o = (do pure (.value (← s)))) (h : Goes P s w R) : OGo P o a w R := by
  obtain ⟨v, w', hs, hr⟩ := h
  unfold OGo
  rw [he]
  simp only [Sem.run_bind, hs, Result.andThen_ok, Sem.run_pure]
  exact hr
theorem OGo.skip {P : Program} {o : Oper} {a : Act} {w : World} {R : Value → World → Prop} {s : Sem Unit} (he : execOp a.eval o = (do s; pure .skip)) (h : Goes P s w fun _ w' => R undef w') : OGo P o a w R := by
  obtain ⟨v, w', hs, hr⟩ := h
  unfold OGo
  rw [he]
  simp only [Sem.run_bind, hs, Result.andThen_ok, Sem.run_pure]
  exact hr
theorem evParts_elim {n : Nat} {σ : Env} {a : Act} (ha : Agrees n σ a) : ∀ {ps : List (Nat × Operand)} {l : List (Nat × Value)}, evParts σ ps = some l → (ps.map fun (i, x) => (i, a.eval x)) = l
  | [], _, h => by cases h; rfl
  | (i, x) :: r, l, h => by
    simp only [evParts] at h
    split at h
    · rename_i v hv
      split at h
      · rename_i t ht
        cases h
        simp only [List.map_cons, ha.ev hv, evParts_elim ha ht]
      · cases h
    · cases h
set_option maxHeartbeats 4000000 in
theorem opW_sound {P : Program} {σ : Env} {o : Oper} {K : Value → PP} {n : Nat} {a : Act} (ha : Agrees n σ a) {w : World} (hh : opW P σ o K w.heap) : OGo P o a w (Beh w K) := by
  obtain ⟨dst, op, type, pos, after, guard⟩ := o
  unfold opW at hh
  cases op <;> (try dsimp only at hh) <;> try exact hh.elim
  case alloc e =>
    cases hz : zeroOf P e with
    | none => rw [hz] at hh; exact hh.elim
    | some z =>
      rw [hz] at hh
      refine OGo.value (s := Instr.alloc e true (.tuple #[])) rfl ?_
      unfold Instr.alloc
      refine Goes.bind (Goes.zero hz fun v hv => ?_)
      unfold newVar
      have h2 : Goes P (newRow e v.cells) w (Beh w fun a => K (.pointer (some a))) := newRow_goes (cs := v.cells.toList) (by rw [← hv]; exact hh)
      exact Goes.bind (h2.mono fun a w' hk => Goes.pure ⟨hk.1, hk.2⟩)
  case box e x =>
    obtain ⟨v, hv, hk⟩ := onV_elim hh
    refine OGo.value (s := Instr.box e (a.eval x)) rfl ?_
    rw [ha.ev hv]
    unfold Instr.box newVar
    have h2 : Goes P (newRow e v.cells) w (Beh w fun a => K (.pointer (some a))) := newRow_goes (cs := v.cells.toList) hk
    exact Goes.bind (h2.mono fun a w' hk => Goes.pure ⟨hk.1, hk.2⟩)
  case build t ps =>
    cases hp : evParts σ ps.toList with
    | none => rw [hp] at hh; exact hh.elim
    | some l =>
      rw [hp] at hh
      refine OGo.value (s := Instr.build t (ps.map fun (i, x) => (i, a.eval x))) rfl ?_
      refine buildR_goes ?_
      have : (ps.map fun (i, x) => (i, a.eval x)).toList = l := by rw [Array.toList_map]; exact evParts_elim ha hp
      rw [this]; exact hh
  case buildSlice t m ps =>
    cases hp : evParts σ ps.toList with
    | none => rw [hp] at hh; exact hh.elim
    | some l =>
      rw [hp] at hh
      refine OGo.value (s := Instr.buildSlice t m (ps.map fun (i, x) => (i, a.eval x))) rfl ?_
      refine buildSliceW_goes ?_
      have : (ps.map fun (i, x) => (i, a.eval x)).toList = l := by rw [Array.toList_map]; exact evParts_elim ha hp
      rw [this]; exact hh
  case store t x y =>
    cases hx : ev σ x with
    | none => rw [hx] at hh; exact hh.elim
    | some xv =>
      rw [hx] at hh
      cases xv <;> (try dsimp only at hh) <;> try exact hh.elim
      rename_i p
      cases p <;> (try dsimp only at hh) <;> try exact hh.elim
      rename_i ad
      obtain ⟨v, hv, hk⟩ := onV_elim hh
      refine OGo.skip (s := Instr.storeAt t (a.eval x) (a.eval y)) rfl ?_
      rw [ha.ev hx, ha.ev hv]
      unfold Instr.storeAt
      refine Goes.bind (Goes.pure ?_)
      exact (storeW_goes hk).mono fun _ w' hb => ⟨hb.1, hb.2⟩
  case makeMap t r =>
    cases r <;> (try dsimp only at hh) <;> try exact hh.elim
    refine OGo.value (s := Instr.makeMap t none) rfl ?_
    unfold Instr.makeMap
    refine Goes.bind (newObj_goes ?_)
    exact Goes.pure ⟨⟨rfl, rfl, rfl⟩, hh⟩
  case makeSlice t l c =>
    obtain ⟨v, hv, hh⟩ := onV_elim hh
    obtain ⟨u, hu, hk⟩ := onV_elim hh
    refine OGo.value (s := Instr.makeSlice t (a.eval l) (a.eval c)) rfl ?_
    rw [ha.ev hv, ha.ev hu]
    exact mkSlP_goes hk
  case convert s d x =>
    obtain ⟨v, hv, hk⟩ := onV_elim hh
    refine OGo.value (s := convert s d (a.eval x)) rfl ?_
    rw [ha.ev hv]
    exact convW_goes hk
  case lookup t m k ok =>
    obtain ⟨v, hv, hh⟩ := onV_elim hh
    obtain ⟨u, hu, hk⟩ := onV_elim hh
    refine OGo.value (s := Instr.lookup t (a.eval m) (a.eval k) ok) rfl ?_
    rw [ha.ev hv, ha.ev hu]
    exact lookW_goes hk
  case mapUpdate t m k x =>
    cases he : mapEl P t with
    | none => rw [he] at hh; exact hh.elim
    | some s =>
      rw [he] at hh
      obtain ⟨v, hv, hh⟩ := onV_elim hh
      obtain ⟨u, hu, hh⟩ := onV_elim hh
      obtain ⟨y, hy, hk⟩ := onV_elim hh
      refine OGo.skip (s := Instr.mapUpdate t (a.eval m) (a.eval k) (a.eval x)) rfl ?_
      rw [ha.ev hv, ha.ev hu, ha.ev hy]
      cases v <;> (try dsimp only at hk) <;> try exact hk.elim
      cases u <;> (try dsimp only at hk) <;> try exact hk.elim
      cases hx : s.proj y with
      | none => simp only [hx] at hk; exact hk.elim
      | some x' =>
        simp only [hx] at hk
        rw [s.inj_proj y x' hx] at hk
        exact (updP_goes he hk).mono fun _ w' hb => ⟨hb.1, hb.2⟩
  case range t x =>
    cases he : mapEl P t with
    | none => rw [he] at hh; exact hh.elim
    | some s =>
      rw [he] at hh
      dsimp only at hh
      cases hx : ev σ x with
      | none => simp only [hx] at hh; exact hh.elim
      | some xv =>
        simp only [hx] at hh
        cases xv <;> (try dsimp only at hh) <;> try exact hh.elim
        refine OGo.value (s := Instr.range t (a.eval x)) rfl ?_
        rw [ha.ev hx]
        exact rangeMP_goes he hh
  case next x str =>
    cases str <;> (try dsimp only at hh) <;> try exact hh.elim
    cases hx : ev σ x with
    | none => simp only [hx] at hh; exact hh.elim
    | some xv =>
      simp only [hx] at hh
      cases xv <;> (try dsimp only at hh) <;> try exact hh.elim
      rename_i p
      cases p <;> (try dsimp only at hh) <;> try exact hh.elim
      refine OGo.value (s := Instr.next (a.eval x) false type) rfl ?_
      rw [ha.ev hx]
      exact nextMP_goes rfl (fun _ => rfl) hh
  case entry x =>
    cases hx : ev σ x with
    | none => simp only [hx] at hh; exact hh.elim
    | some xv =>
      simp only [hx] at hh
      cases xv <;> (try dsimp only at hh) <;> try exact hh.elim
      rename_i p
      cases p <;> (try dsimp only at hh) <;> try exact hh.elim
      refine OGo.value (s := Instr.entry (a.eval x)) rfl ?_
      rw [ha.ev hx]
      exact entryMP_goes (s := .ptr) (fun _ _ => rfl) hh
  case call c =>
    obtain ⟨callee, args, argTypes⟩ := c
    cases callee <;> (try dsimp only at hh) <;> try exact hh.elim
    rename_i b
    have hrun : ∀ vs, evs σ args.toList = some vs → args.map a.eval = vs.toArray := fun vs hv => by rw [← ha.evs hv, ← Array.toList_map]
    cases b <;> (try dsimp only at hh) <;> try exact hh.elim
    case append =>
      cases hv : evs σ args.toList with
      | none => simp only [hv] at hh; exact hh.elim
      | some vs =>
        simp only [hv] at hh
        refine OGo.value (s := Builtin.append_ argTypes type (args.map a.eval)) rfl ?_
        rw [hrun vs hv]
        unfold appendW at hh
        cases ht : argTypes.toList with
        | nil => rw [ht] at hh; exact hh.elim
        | cons t tr =>
          rw [ht] at hh
          cases tr with
          | nil => exact hh.elim
          | cons xt tr =>
            dsimp only at hh
            have h1 : argTypes[0]? = some t := by rw [← Array.getElem?_toList, ht]; rfl
            have h2 : argTypes[1]? = some xt := by rw [← Array.getElem?_toList, ht]; rfl
            cases hu : P.underlying t with
            | none => simp only [hu] at hh; exact hh.elim
            | some d =>
              simp only [hu] at hh
              cases d <;> (try dsimp only at hh) <;> try exact hh.elim
              rename_i e
              cases hi : P.info? e with
              | none => simp only [hi] at hh; exact hh.elim
              | some i =>
                simp only [hi] at hh
                cases hz : zeroOf P e with
                | none => simp only [hz] at hh; exact hh.elim
                | some z =>
                  simp only [hz] at hh
                  cases vs with
                  | nil => exact hh.elim
                  | cons s vs =>
                    cases vs with
                    | nil => exact hh.elim
                    | cons x vs =>
                      cases s <;> (try dsimp only at hh) <;> try exact hh.elim
                      cases hx : P.underlying xt with
                      | none => simp only [hx] at hh; exact hh.elim
                      | some dx =>
                        simp only [hx] at hh
                        have fin : ∀ (p : Option Addr) (m c : Nat), i.bytes ≠ 0 → (∀ k, dx ≠ .int k) → appP e i.size i.bytes z p m c x (fun q n' c' => K (.slice q n' c')) w.heap →
                            Goes P (Builtin.append_ argTypes type (.slice p m c :: x :: vs).toArray) w (Beh w K) := fun p m c hb hn hk =>
                          (appP_goes hu hi hz hb hx hn argTypes _ h1 h2 (by simp) (by simp) hk).mono fun v w' hh => ⟨hh.1, by
                            obtain ⟨q, m', c', e1, e2⟩ := hh.2; rw [e1]; exact e2⟩
                        cases dx <;> (try dsimp only at hh) <;> try exact hh.elim
                        case string =>
                          cases hb : Nat.beq i.bytes 0 with
                          | true => simp only [hb] at hh; exact hh.elim
                          | false =>
                            simp only [hb] at hh
                            cases hs : Nat.beq i.size 1 with
                            | false => simp only [hs] at hh; exact hh.elim
                            | true =>
                              simp only [hs] at hh
                              exact fin _ _ _ (Nat.ne_of_beq_eq_false hb) (by simp) hh
                        case slice =>
                          cases hb : Nat.beq i.bytes 0 with
                          | true => simp only [hb] at hh; exact hh.elim
                          | false =>
                            simp only [hb] at hh
                            exact fin _ _ _ (Nat.ne_of_beq_eq_false hb) (by simp) hh
    case copy =>
      cases hv : evs σ args.toList with
      | none => simp only [hv] at hh; exact hh.elim
      | some vs =>
        simp only [hv] at hh
        refine OGo.value (s := Builtin.copy_ argTypes type (args.map a.eval)) rfl ?_
        rw [hrun vs hv]
        exact copyW_goes hh
    case delete =>
      cases ht : argTypes.toList with
      | nil => rw [ht] at hh; exact hh.elim
      | cons t tr =>
        rw [ht] at hh
        dsimp only at hh
        have h1 : argTypes[0]? = some t := by rw [← Array.getElem?_toList, ht]; rfl
        cases he : mapEl P t with
        | none => simp only [he] at hh; exact hh.elim
        | some s =>
          simp only [he] at hh
          cases hv : evs σ args.toList with
          | none => simp only [hv] at hh; exact hh.elim
          | some vs =>
            simp only [hv] at hh
            refine OGo.value (s := Builtin.delete_ argTypes type (args.map a.eval)) rfl ?_
            rw [hrun vs hv]
            cases vs with
            | nil => exact hh.elim
            | cons m vs =>
              cases m <;> (try dsimp only at hh) <;> try exact hh.elim
              cases vs with
              | nil => exact hh.elim
              | cons k vs =>
                cases k <;> (try dsimp only at hh) <;> try exact hh.elim
                exact delP_goes he h1 (by simp) (by simp) hh
    case len =>
      cases ht : argTypes.toList with
      | nil => rw [ht] at hh; exact hh.elim
      | cons t tr =>
        rw [ht] at hh
        dsimp only at hh
        have h1 : argTypes[0]? = some t := by rw [← Array.getElem?_toList, ht]; rfl
        cases he : mapEl P t with
        | none => simp only [he] at hh; exact hh.elim
        | some s =>
          simp only [he] at hh
          cases hv : evs σ args.toList with
          | none => simp only [hv] at hh; exact hh.elim
          | some vs =>
            simp only [hv] at hh
            refine OGo.value (s := Builtin.len_ argTypes type (args.map a.eval)) rfl ?_
            rw [hrun vs hv]
            cases vs with
            | nil => exact hh.elim
            | cons m vs =>
              cases m <;> (try dsimp only at hh) <;> try exact hh.elim
              exact lenMP_goes he h1 (by simp) hh
end Go.Shal
end

/- Heaps: blocks, what is kept, rows that a slice owns. Rules in use: numbers, slices that are read, local rows. Local variables. Maps by strings: what they hold. Maps by strings: going through them. -/
import Derived.Test.YtemfgkhholobgaaGreatDoorCD
section
namespace Go.Shal
open Go
/-! ### Primitives -/
section prim
variable {h : Heap} {K : PP}
theorem ld_of {s : Sc} {a : Addr} {x : s.T} {K : s.T → PP} (hc : hcell h a = some (s.inj x)) (hk : K x h) : ld s a K h := ⟨x, hc, hk⟩
theorem ifB_of {b : Bool} {A B : PP} (ht : b = true → A h) (hf : b = false → B h) : ifB b A B h := by
  cases b
  · exact hf rfl
  · exact ht rfl
@[simp] theorem ifB_true {A B : PP} : ifB true A B = A := rfl
@[simp] theorem ifB_false {A B : PP} : ifB false A B = B := rfl
@[simp] theorem nilP_some {a : Addr} {K : Addr → PP} : nilP (some a) K h = K a h := by
  apply propext
  constructor
  · rintro ⟨b, hb, hk⟩; cases hb; exact hk
  · exact fun hk => ⟨a, rfl, hk⟩
theorem joinT_dup {l : List Sc} {A : Fn l → PP} {B : Fn l} (hk : A B h) : joinT l A B h := ⟨B, hk, fun _ _ x => x⟩
end prim
@[simp] theorem add_zero' (a : Addr) : a.add 0 = a := rfl
@[simp] theorem add_mk (b o n : Nat) : (⟨b, o, none⟩ : Addr).add n = ⟨b, o + n, none⟩ := by
  unfold Addr.add
  split
  · rename_i e; subst e; rfl
  · rfl
@[simp] theorem hcell_cells {h : Heap} {b o : Nat} {cs : Array Value} {T : TypeId} {fr : Nat × Nat} (hb : h[b]? = some (.cells cs T fr)) : hcell h ⟨b, o, none⟩ = cs[o]? := by
  simp [hcell, hb]
theorem hfrozen_cells {h : Heap} {b o : Nat} {cs : Array Value} {T : TypeId} (hb : h[b]? = some (.cells cs T (0, 0))) : hfrozen h ⟨b, o, none⟩ = false := by
  simp [hfrozen, hb]
/-! ### What is kept -/
/-- Blocks below B, and those that 'M' does not let turn, are as they were. -/
structure Keep (B : Nat) (M : Obj → Bool) (h h' : Heap) : Prop where
  size : h.size ≤ h'.size
  at_ : ∀ b o, h[b]? = some o → (b < B ∨ M o = false) → h'[b]? = some o
def none_ : Obj → Bool := fun _ => false
/-- Rows of these types may turn. -/
def rowsOf (Ts : List TypeId) : Obj → Bool
  | .cells _ T _ => memN T Ts
  | _ => false
theorem Keep.refl (B : Nat) (M : Obj → Bool) (h : Heap) : Keep B M h h := ⟨Nat.le_refl _, fun _ _ hb _ => hb⟩
theorem Keep.trans {B : Nat} {M : Obj → Bool} {a b c : Heap} (h : Keep B M a b) (k : Keep B M b c) : Keep B M a c :=
  ⟨Nat.le_trans h.size k.size, fun n o hn hm => k.at_ n o (h.at_ n o hn hm) hm⟩
theorem Keep.mono {B B' : Nat} {M M' : Obj → Bool} {a b : Heap} (h : Keep B M a b) (hB : B' ≤ B) (hM : ∀ o, M' o = false → M o = false) : Keep B' M' a b :=
  ⟨h.size, fun n o hn hm => h.at_ n o hn (hm.imp (fun h => Nat.lt_of_lt_of_le h hB) (hM o))⟩
/-- Nothing that was there has turned. -/
abbrev Ext (h h' : Heap) : Prop := Keep 0 none_ h h'
theorem Ext.at' {h h' : Heap} (e : Ext h h') {b : Nat} {o : Obj} (hb : h[b]? = some o) : h'[b]? = some o := e.at_ b o hb (.inr rfl)
theorem Ext.keep {h h' : Heap} (e : Ext h h') (B : Nat) (M : Obj → Bool) : Keep B M h h' := ⟨e.size, fun _ _ hn _ => e.at' hn⟩
theorem Ext.cell {h h' : Heap} (e : Ext h h') {a : Addr} {v : Value} (hc : hcell h a = some v) : hcell h' a = some v := by
  unfold hcell at *
  cases hb : h[a.block]? with
  | none => rw [hb] at hc; cases hc
  | some o => rw [e.at' hb]; rw [hb] at hc; exact hc
theorem getElem?_push_lt {h : Heap} {o : Obj} {b : Nat} {x : Obj} (hb : h[b]? = some x) : (h.push o)[b]? = some x := by
  have hlt : b < h.size := by rw [Array.getElem?_eq_some_iff] at hb; exact hb.1
  rw [Array.getElem?_push, if_neg (by omega)]; exact hb
theorem lt_of_some {h : Heap} {b : Nat} {x : Obj} (hb : h[b]? = some x) : b < h.size := by rw [Array.getElem?_eq_some_iff] at hb; exact hb.1
@[simp] theorem getElem?_push_new (h : Heap) (o : Obj) : (h.push o)[h.size]? = some o := by simp
theorem Ext.push (h : Heap) (o : Obj) : Ext h (h.push o) := ⟨by simp, fun _ _ hb _ => getElem?_push_lt hb⟩
theorem hset_at {h : Heap} {b o : Nat} {cs : Array Value} {T : TypeId} {fr : Nat × Nat} (hb : h[b]? = some (.cells cs T fr)) (v : Value) :
    (hset h ⟨b, o, none⟩ v)[b]? = some (.cells (cs.setIfInBounds o v) T fr) := by
  simp [hset, Array.getElem?_modify, hb]
theorem hset_other {h : Heap} {a : Addr} {v : Value} {b : Nat} (hne : a.block ≠ b) : (hset h a v)[b]? = h[b]? := by
  simp [hset, Array.getElem?_modify, hne]
@[simp] theorem hset_size (h : Heap) (a : Addr) (v : Value) : (hset h a v).size = h.size := by simp [hset]
theorem Keep.hset {B : Nat} {M : Obj → Bool} {h : Heap} {a : Addr} {o : Obj} (hb : h[a.block]? = some o) (hB : B ≤ a.block) (hM : M o = true) (v : Value) : Keep B M h (hset h a v) :=
  ⟨by simp, fun n _ hn hm => by
    by_cases hne : a.block = n
    · subst hne
      rw [hb] at hn
      cases hn
      rcases hm with hm | hm
      · omega
      · rw [hM] at hm; cases hm
    · rw [hset_other hne]; exact hn⟩
/-! ### Rows of cells that are read -/
theorem cellsAt_of {h : Heap} {b o n : Nat} {cs : Array Value} {T : TypeId} {fr : Nat × Nat} {l : List Value} (hb : h[b]? = some (.cells cs T fr)) (hn : l.length = n) (hl : (cs.toList.drop o).take n = l) :
    cellsAt h (some ⟨b, o, none⟩) n l := by
  refine ⟨hn, fun j v hj => ?_⟩
  rw [add_mk, hcell_cells hb]
  have : ((cs.toList.drop o).take n)[j]? = some v := by rw [hl]; exact hj
  rw [List.getElem?_take] at this
  split at this
  · rw [List.getElem?_drop] at this; simpa using this
  · cases this
/-! ### A slice that owns its row -/
/-- Slice s owns a row of elements of type T, of k cells each; its elements are xs. -/
structure Own {α : Type} (B : Nat) (T k : Nat) (enc : α → List Value) (h : Heap) (s : Sl) (xs : List α) : Prop where
  len : s.len = xs.length
  row : match s.p with
    | none => xs = [] ∧ s.cap = 0
    | some a => a.off = 0 ∧ a.spot = none ∧ B ≤ a.block ∧ ∃ cs, h[a.block]? = some (.cells cs T (0, 0)) ∧ cs.size = s.cap * k ∧ xs.length ≤ s.cap ∧ cs.toList.take (xs.length * k) = xs.flatMap enc ∧ s.cap ≤ 9223372036854775807
theorem Own.nil {α : Type} (B T k : Nat) (enc : α → List Value) (h : Heap) : Own B T k enc h ⟨none, 0, 0⟩ [] := ⟨rfl, rfl, rfl⟩
theorem flatMap_length {α : Type} {k : Nat} {enc : α → List Value} (hk : ∀ x, (enc x).length = k) : ∀ xs : List α, (xs.flatMap enc).length = xs.length * k
  | [] => by simp
  | x :: xs => by rw [List.flatMap_cons, List.length_append, hk, flatMap_length hk xs, List.length_cons, Nat.succ_mul, Nat.add_comm]
theorem Own.mono {α : Type} {B B' T k : Nat} {enc : α → List Value} {h : Heap} {s : Sl} {xs : List α} (ho : Own B T k enc h s xs) (hB : B' ≤ B) : Own B' T k enc h s xs := by
  refine ⟨ho.len, ?_⟩
  have := ho.row
  revert this
  cases s.p with
  | none => exact id
  | some a => exact fun ⟨h1, h2, h3, h4⟩ => ⟨h1, h2, Nat.le_trans hB h3, h4⟩
/-- It is there still, where its block is as it was. -/
theorem Own.keep {α : Type} {B T k : Nat} {enc : α → List Value} {h h' : Heap} {s : Sl} {xs : List α} (ho : Own B T k enc h s xs)
    (hk : ∀ b cs, h[b]? = some (.cells cs T (0, 0)) → B ≤ b → s.p.map (·.block) = some b → h'[b]? = some (.cells cs T (0, 0))) : Own B T k enc h' s xs := by
  refine ⟨ho.len, ?_⟩
  have := ho.row
  revert this
  cases hp : s.p with
  | none => exact id
  | some a =>
    rintro ⟨h1, h2, h3, cs, h4, h5⟩
    exact ⟨h1, h2, h3, cs, hk _ _ h4 h3 (by rw [hp]; rfl), h5⟩
theorem Own.keepM {α : Type} {B T k B' : Nat} {M : Obj → Bool} {enc : α → List Value} {h h' : Heap} {s : Sl} {xs : List α} (ho : Own B T k enc h s xs) (hk : Keep B' M h h')
    (hM : ∀ cs, M (.cells cs T (0, 0)) = false) : Own B T k enc h' s xs := ho.keep fun b cs hb _ _ => hk.at_ b _ hb (.inr (hM cs))
theorem Own.ext {α : Type} {B T k : Nat} {enc : α → List Value} {h h' : Heap} {s : Sl} {xs : List α} (ho : Own B T k enc h s xs) (hk : Ext h h') : Own B T k enc h' s xs := ho.keepM hk fun _ => rfl
theorem Own.cells {α : Type} {B T k : Nat} {enc : α → List Value} (hk : ∀ x, (enc x).length = k) {h : Heap} {s : Sl} {xs : List α} (ho : Own B T k enc h s xs) : cellsAt h s.p (s.len * k) (xs.flatMap enc) := by
  have hr := ho.row
  revert hr
  rw [ho.len]
  cases s.p with
  | none => rintro ⟨rfl, _⟩; rfl
  | some a =>
    obtain ⟨b, o, sp⟩ := a
    rintro ⟨h1, h2, h3, cs, h4, h5, h6, h7, _⟩
    simp only at h1 h2
    subst h1 h2
    exact cellsAt_of h4 (flatMap_length hk xs) (by simpa using h7)
/-- Cells of a row are put behind one another. -/
theorem putP_row {K : PP} : ∀ (vs : List Value) (b o i : Nat) (h : Heap) (cs : Array Value) (T : TypeId), h[b]? = some (.cells cs T (0, 0)) → o + i + vs.length ≤ cs.size → (∀ v ∈ vs, v.oneCell' = true) →
    (∀ h' cs', h'[b]? = some (.cells cs' T (0, 0)) → cs'.toList = cs.toList.take (o + i) ++ vs ++ cs.toList.drop (o + i + vs.length) → h'.size = h.size → (∀ n, n ≠ b → h'[n]? = h[n]?) → K h') →
    putP ⟨b, o, none⟩ vs i K h
  | [], b, o, i, h, cs, T, hb, _, _, hK => hK h cs hb (by simp) rfl (fun _ _ => rfl)
  | v :: vs, b, o, i, h, cs, T, hb, hlen, hone, hK => by
    simp only [List.length_cons] at hlen
    refine ⟨⟨?_, ?_, hone v (by simp)⟩, ?_⟩
    · rw [add_mk, hcell_cells hb]
      exact ⟨cs[o + i]'(by omega), by simp⟩
    · rw [add_mk]; exact hfrozen_cells hb
    · rw [add_mk]
      refine putP_row vs b o (i + 1) _ (cs.setIfInBounds (o + i) v) T (hset_at hb v) (by simp; omega) (fun u hu => hone u (by simp [hu])) fun h' cs' h1 h2 h3 h4 => ?_
      refine hK h' cs' h1 ?_ (by rw [h3, hset_size]) (fun n hn => by rw [h4 n hn, hset_other (Ne.symm hn)])
      rw [h2]
      have hlt : o + i < cs.toList.length := by simp; omega
      simp only [Array.toList_setIfInBounds, List.length_cons]
      rw [show o + (i + 1) = (o + i) + 1 from by omega, List.take_set, List.drop_set]
      rw [if_pos (by omega)]
      rw [show (cs.toList.take (o + i + 1)) = cs.toList.take (o + i) ++ [cs.toList[o + i]] from by rw [List.take_succ_eq_append_getElem hlt]]
      rw [List.set_append_right _ _ (by simp; omega)]
      have : min (o + i) cs.toList.length = o + i := by omega
      simp only [List.length_take, this, Nat.sub_self, List.set_cons_zero, List.append_assoc, List.cons_append, List.nil_append]
      rw [show o + i + 1 + vs.length = o + i + (vs.length + 1) from by omega]
theorem own_append {α : Type} {B T k bytes : Nat} {z : Array Value} {enc : α → List Value} (hk : ∀ x, (enc x).length = k) (h1 : ∀ x, ∀ v ∈ enc x, v.oneCell' = true) {h : Heap} {s : Sl} {xs ys : List α} {x : Value} {K : Option Addr → Nat → Nat → PP}
    (hz : z.size = k) (ho : Own B T k enc h s xs) (hB : B ≤ h.size) (hx : srcAt h k x (ys.flatMap enc)) (hl : srcLen x = ys.length) (hbd : (2 * (xs.length + ys.length) + 192) * bytes ≤ 2 ^ 48)
    (hK : ∀ s' h', Own B T k enc h' s' (xs ++ ys) → h.size ≤ h'.size → (∀ b o, h[b]? = some o → (s.p.map (·.block) ≠ some b ∨ ys = []) → h'[b]? = some o) → (∀ a, s'.p = some a → s.p.map (·.block) = some a.block ∨ h.size ≤ a.block) → K s'.p s'.len s'.cap h') :
    appP T k bytes z s.p s.len s.cap x K h := by
  have hlen := ho.len
  refine ⟨ys.flatMap enc, hx, fun hroom => ?_, fun hgrow => ?_⟩
  · have hr := ho.row
    cases hp : s.p with
    | none =>
      rw [hp] at hr
      obtain ⟨rfl, hc⟩ := hr
      simp at hlen
      rw [hl, hc, hlen] at hroom
      have : ys = [] := List.eq_nil_of_length_eq_zero (by omega)
      subst this
      have := hK ⟨none, 0, 0⟩ h (Own.nil _ _ _ _ _) (Nat.le_refl _) (fun _ _ hb _ => hb) (fun a ha => by cases ha)
      dsimp only
      rw [hl, hlen, hc]
      exact this
    | some a =>
      obtain ⟨b, o, sp⟩ := a
      rw [hp] at hr
      obtain ⟨e1, e2, e3, cs, e4, e5, e6, e7, e8⟩ := hr
      simp only at e1 e2 e3 e4
      subst e1 e2
      dsimp only
      rw [add_mk, hlen, hl]
      have hsz : (ys.flatMap enc).length = ys.length * k := flatMap_length hk ys
      have hsx : (xs.flatMap enc).length = xs.length * k := flatMap_length hk xs
      rw [hlen, hl] at hroom
      have hmul : (xs.length + ys.length) * k ≤ s.cap * k := Nat.mul_le_mul_right k hroom
      rw [Nat.add_mul] at hmul
      refine putP_row (ys.flatMap enc) b (0 + xs.length * k) 0 h cs T e4 (by rw [hsz, e5]; omega) (fun v hv => by
        obtain ⟨y, _, hy⟩ := List.mem_flatMap.1 hv
        exact h1 y v hy) fun h' cs' f1 f2 f3 f4 => ?_
      refine hK ⟨some ⟨b, 0, none⟩, xs.length + ys.length, s.cap⟩ h' ⟨by simp, rfl, rfl, e3, cs', f1, ?_, by simpa using hroom, ?_, e8⟩ (by rw [f3]; exact Nat.le_refl _) (fun n o' hn hne => ?_) (fun a ha => by cases ha; left; rw [hp]; rfl)
      · have := congrArg List.length f2
        simp only [List.length_append, List.length_take, List.length_drop, Array.length_toList, hsz] at this
        rw [this, e5]
        simp only [Nat.zero_add, Nat.add_zero]
        omega
      · rw [List.length_append, Nat.add_mul, List.flatMap_append, f2, Nat.zero_add, Nat.add_zero, List.append_assoc, e7]
        rw [← hsx, List.take_length_add_append, ← hsz, List.take_left]
      · rcases hne with hne | hne
        · rw [f4 n (by rintro rfl; exact hne (by rw [hp]; rfl))]; exact hn
        · subst hne
          by_cases hnb : n = b
          · subst hnb
            rw [e4] at hn
            cases hn
            rw [f1]
            congr 2
            apply Array.ext'
            rw [f2]
            simp
          · rw [f4 n hnb]; exact hn
  · rw [hl, hlen] at hgrow ⊢
    refine ⟨hbd, xs.flatMap enc, by rw [← hlen]; exact ho.cells hk, fun cap hcap hmax => ?_⟩
    refine hK ⟨some ⟨h.size, 0, none⟩, xs.length + ys.length, cap⟩ _ ⟨by simp, rfl, rfl, hB, _, getElem?_push_new _ _, ?_, by simpa using hcap, ?_, hmax⟩ (by simp) (fun n o hn _ => getElem?_push_lt hn) (fun a ha => by cases ha; right; exact Nat.le_refl _)
    · simp only [Array.size_append, List.size_toArray, flatMap_length hk, zrow, Array.size_map, Array.size_range, hz]
      rw [← Nat.add_mul, ← Nat.add_mul]
      congr 1
      omega
    · simp only [Array.toList_append, List.append_assoc]
      rw [List.length_append, List.flatMap_append, ← List.append_assoc, Nat.add_mul, ← flatMap_length hk xs, ← flatMap_length hk ys, ← List.length_append, List.take_left']
      rfl
end Go.Shal
end
section
namespace Go.Shal
open Go
/-! ### Numbers -/
theorem wi {x : Int} (h1 : -9223372036854775808 ≤ x) (h2 : x < 9223372036854775808) : IntKind.wrap .i64 x = x := by
  have e : IntKind.wrap .i64 x = if x % 2 ^ 64 ≥ 2 ^ 63 then x % 2 ^ 64 - 2 ^ 64 else x % 2 ^ 64 := by
    simp [IntKind.wrap, IntKind.bits, IntKind.signed]
  rw [e]
  split <;> omega
theorem wuE (x : Int) : IntKind.wrap .u64 x = x % 18446744073709551616 := by simp [IntKind.wrap, IntKind.bits, IntKind.signed]
theorem wu {x : Int} (h1 : 0 ≤ x) (h2 : x < 18446744073709551616) : IntKind.wrap .u64 x = x := by rw [wuE]; omega
theorem w32E (x : Int) : IntKind.wrap .u32 x = x % 4294967296 := by simp [IntKind.wrap, IntKind.bits, IntKind.signed]
theorem w32 {x : Int} (h1 : 0 ≤ x) (h2 : x < 4294967296) : IntKind.wrap .u32 x = x := by rw [w32E]; omega
theorem w8E (x : Int) : IntKind.wrap .u8 x = x % 256 := by simp [IntKind.wrap, IntKind.bits, IntKind.signed]
theorem w8 {x : Int} (h1 : 0 ≤ x) (h2 : x < 256) : IntKind.wrap .u8 x = x := by rw [w8E]; omega
theorem w8n (n : Nat) : IntKind.wrap .u8 (n : Int) = ((UInt8.ofNat n).toNat : Int) := by
  rw [w8E, UInt8.toNat_ofNat']
  omega
theorem tdiv_nat (a b : Nat) : Int.tdiv (a : Int) (b : Int) = ((a / b : Nat) : Int) := by
  rw [Int.tdiv_eq_ediv_of_nonneg (by omega)]; rfl
theorem tmod_nat (a b : Nat) : Int.tmod (a : Int) (b : Int) = ((a % b : Nat) : Int) := by
  rw [Int.tmod_eq_emod_of_nonneg (by omega)]; rfl
theorem fdiv_nat (a b : Nat) : Int.fdiv (a : Int) (b : Int) = ((a / b : Nat) : Int) := by
  rw [Int.fdiv_eq_ediv_of_nonneg _ (by omega)]; rfl
theorem ifB_of_true {b : Bool} {A B : PP} (hb : b = true) : ifB b A B = A := by subst hb; rfl
theorem ifB_of_false {b : Bool} {A B : PP} (hb : b = false) : ifB b A B = B := by subst hb; rfl
theorem atS_of {s : Bytes} {i : Int} {n : Nat} {b : UInt8} {K : UInt8 → PP} {h : Heap} (hi : i = (n : Int)) (hb : s[n]? = some b) (hk : K b h) : atS s i K h := by
  subst hi
  exact ⟨b, ⟨by omega, by simpa using hb⟩, hk⟩
theorem sliceStr_of {s t : Bytes} {lo hi : Int} {a b : Nat} {K : Bytes → PP} {h : Heap} (ha : lo = (a : Int)) (hb : hi = (b : Int)) (hab : a ≤ b) (hbs : b ≤ s.length) (ht : (s.take b).drop a = t) (hk : K t h) : sliceStr s lo hi K h := by
  subst ha hb ht
  exact ⟨⟨by omega, by omega, by omega⟩, by simpa using hk⟩
/-! ### Calls -/
theorem callT_of {P : Program} {f : FuncId} {args : Array Value} {l : List Sh} {Q : Fn (flat l)} {h : Heap}
    (H : ∀ w : World, w.heap = h → Calls P f args w fun e w' => Same w w' ∧ ∃ t, e = .returned (retVal (group l (injs (flat l) t))) ∧ unc (flat l) Q t w'.heap) : callT P f args l Q h :=
  fun w hw => (H w hw).mono fun _ _ ⟨a, t, b, c⟩ => ⟨a, exT_intro _ _ _ _ t b c⟩
/-! ### What is as it was below a place -/
abbrev Up (B : Nat) (h h' : Heap) : Prop := Keep B (fun _ => true) h h'
theorem Up.at' {B : Nat} {h h' : Heap} (u : Up B h h') {b : Nat} {o : Obj} (hb : h[b]? = some o) (hlt : b < B) : h'[b]? = some o := u.at_ b o hb (.inl hlt)
theorem Up.ext {h h' : Heap} (u : Up h.size h h') : Ext h h' := ⟨u.size, fun _ _ hb _ => u.at' hb (lt_of_some hb)⟩
theorem Ext.up {h h' : Heap} (e : Ext h h') (B : Nat) : Up B h h' := e.keep B _
theorem Up.mono {B B' : Nat} {h h' : Heap} (u : Up B h h') (hB : B' ≤ B) : Up B' h h' := Keep.mono u hB fun _ h => h
theorem Up.refl (B : Nat) (h : Heap) : Up B h h := Keep.refl _ _ _
theorem Up.trans {B : Nat} {a b c : Heap} (h : Up B a b) (k : Up B b c) : Up B a c := Keep.trans h k
theorem Ext.refl (h : Heap) : Ext h h := Keep.refl _ _ _
theorem Ext.trans {a b c : Heap} (h : Ext a b) (k : Ext b c) : Ext a c := Keep.trans h k
theorem hcell_lt {h : Heap} {a : Addr} {v : Value} (hc : hcell h a = some v) : a.block < h.size := by
  unfold hcell at hc
  cases hb : h[a.block]? with
  | none => rw [hb] at hc; cases hc
  | some o => exact lt_of_some hb
/-! ### Slices that are read -/
/-- The elements of slice s are xs. -/
structure Sees {α : Type} (k : Nat) (enc : α → List Value) (h : Heap) (s : Sl) (xs : List α) : Prop where
  len : s.len = xs.length
  at_ : cellsAt h s.p (s.len * k) (xs.flatMap enc)
  none_ : s.p = none → xs = []
theorem Sees.nil {α : Type} (k : Nat) (enc : α → List Value) (h : Heap) (c : Nat) : Sees k enc h ⟨none, 0, c⟩ [] := ⟨rfl, rfl, fun _ => rfl⟩
theorem cellsAt_ext {h h' : Heap} {p : Option Addr} {n : Nat} {l : List Value} (hc : cellsAt h p n l) (e : ∀ a v, hcell h a = some v → (∃ q, p = some q ∧ a.block = q.block) → hcell h' a = some v) : cellsAt h' p n l := by
  cases p with
  | none => exact hc
  | some a => exact ⟨hc.1, fun j v hj => e _ _ (hc.2 j v hj) ⟨a, rfl, by unfold Addr.add; split <;> rfl⟩⟩
theorem Sees.ext {α : Type} {k : Nat} {enc : α → List Value} {h h' : Heap} {s : Sl} {xs : List α} (hs : Sees k enc h s xs) (e : Ext h h') : Sees k enc h' s xs :=
  ⟨hs.len, cellsAt_ext hs.at_ fun _ _ hc _ => e.cell hc, hs.none_⟩
theorem Sees.keep {α : Type} {k B : Nat} {M : Obj → Bool} {enc : α → List Value} {h h' : Heap} {s : Sl} {xs : List α} (hs : Sees k enc h s xs) (e : Keep B M h h')
    (hB : ∀ a, s.p = some a → a.block < B ∨ ∃ o, h[a.block]? = some o ∧ M o = false) : Sees k enc h' s xs :=
  ⟨hs.len, cellsAt_ext hs.at_ fun a v hc hq => by
    obtain ⟨q, hq, hb⟩ := hq
    unfold hcell at *
    cases ho : h[a.block]? with
    | none => rw [ho] at hc; cases hc
    | some o =>
      have : h'[a.block]? = some o := e.at_ _ _ ho (by
        rcases hB q hq with hl | ⟨o', ho', hm⟩
        · left; omega
        · right; rw [hb, ho'] at ho; cases ho; exact hm)
      rw [this]; rw [ho] at hc; exact hc, hs.none_⟩
theorem Own.sees {α : Type} {B T k : Nat} {enc : α → List Value} (hk : ∀ x, (enc x).length = k) {h : Heap} {s : Sl} {xs : List α} (ho : Own B T k enc h s xs) : Sees k enc h s xs :=
  ⟨ho.len, ho.cells hk, fun hp => by have := ho.row; rw [hp] at this; exact this.1⟩
theorem flat_get {α : Type} {k : Nat} {enc : α → List Value} (hk : ∀ x, (enc x).length = k) : ∀ (xs : List α) (i j : Nat) (x : α) (v : Value), xs[i]? = some x → (enc x)[j]? = some v → (xs.flatMap enc)[i * k + j]? = some v
  | [], i, j, x, v, hx, _ => by simp at hx
  | y :: ys, 0, j, x, v, hx, hv => by
    simp at hx
    subst hx
    rw [List.flatMap_cons, List.getElem?_append_left (by rw [List.getElem?_eq_some_iff] at hv; simpa using hv.1)]
    simpa using hv
  | y :: ys, i + 1, j, x, v, hx, hv => by
    rw [List.flatMap_cons, List.getElem?_append_right (by rw [hk, Nat.succ_mul]; omega), hk]
    have := flat_get hk ys i j x v (by simpa using hx) hv
    rw [← this]
    congr 1
    rw [Nat.succ_mul]
    omega
theorem add_add (a : Addr) (m n : Nat) : (a.add m).add n = a.add (m + n) := by
  obtain ⟨b, o, sp⟩ := a
  unfold Addr.add
  by_cases h1 : m = 0
  · subst h1; simp
  · by_cases h2 : n = 0
    · subst h2; simp [h1]
    · simp [h1, h2, Nat.add_assoc]
/-- The cells of a slice's i-th element. -/
theorem Sees.elem {α : Type} {k : Nat} {enc : α → List Value} (hk : ∀ x, (enc x).length = k) {h : Heap} {s : Sl} {xs : List α} (hs : Sees k enc h s xs) {i : Nat} {x : α} (hx : xs[i]? = some x) :
    ∃ a, s.p = some a ∧ i < s.len ∧ ∀ j v, (enc x)[j]? = some v → hcell h ((a.add (i * k)).add j) = some v := by
  have hi : i < xs.length := by rw [List.getElem?_eq_some_iff] at hx; exact hx.1
  have hc := hs.at_
  cases hp : s.p with
  | none => rw [hs.none_ hp] at hi; simp at hi
  | some a =>
    rw [hp] at hc
    exact ⟨a, rfl, by rw [hs.len]; exact hi, fun j v hj => by rw [add_add]; exact hc.2 _ _ (flat_get hk xs i j x v hx hj)⟩
/-- Indexing. -/
theorem Sees.idx {α : Type} {k : Nat} {enc : α → List Value} (hk : ∀ x, (enc x).length = k) {h : Heap} {s : Sl} {xs : List α} (hs : Sees k enc h s xs) {i : Int} {n : Nat} {x : α} {K : Addr → PP} (hi : i = (n : Int)) (hx : xs[n]? = some x)
    (hK : ∀ a, (∀ j v, (enc x)[j]? = some v → hcell h (a.add j) = some v) → K a h) : idxP k s.p s.len i K h := by
  subst hi
  obtain ⟨a, h1, h2, h3⟩ := hs.elem hk hx
  exact ⟨a, h1, ⟨by omega, by omega⟩, hK _ h3⟩
theorem Sees.idx1 {α : Type} {enc : α → Value} {h : Heap} {s : Sl} {xs : List α} (hs : Sees 1 (fun x => [enc x]) h s xs) {i : Int} {n : Nat} {x : α} {K : Addr → PP} (hi : i = (n : Int)) (hx : xs[n]? = some x)
    (hK : ∀ a, hcell h a = some (enc x) → K a h) : idxP 1 s.p s.len i K h :=
  Sees.idx (enc := fun x => [enc x]) (fun _ => rfl) hs hi hx fun a ha => hK a (by simpa using ha 0 _ rfl)
/-! ### Bytes -/
abbrev encB (b : UInt8) : List Value := [Value.int .u8 (b.toNat : Int)]
theorem flat_single {α : Type} (f : α → Value) (l : List α) : (l.flatMap fun x => [f x]) = l.map f := by
  induction l with
  | nil => rfl
  | cons x l ih => simp [ih]
theorem Sees.hbytes {h : Heap} {s : Sl} {l : Bytes} (hs : Sees 1 encB h s l) : hbytes h s.p s.len l := by
  have hc := hs.at_
  unfold Shal.hbytes
  cases hp : s.p with
  | none => exact hs.none_ hp
  | some a =>
    rw [hp] at hc
    refine ⟨hs.len.symm, fun i v hv => hc.2 i _ ?_⟩
    unfold encB
    rw [flat_single]
    simp [hv]
theorem Sees.bytes {h : Heap} {s : Sl} {l : Bytes} {K : Bytes → PP} (hs : Sees 1 encB h s l) (hk : K l h) : bytesP s.p s.len K h := ⟨l, hs.hbytes, hk⟩
theorem ofStr_sees {E : TypeId} {l : Bytes} {h : Heap} {K : Option Addr → Nat → Nat → PP} (hk : ∀ p c h', Ext h h' → Sees 1 encB h' ⟨p, l.length, c⟩ l → K p l.length c h') : ofStrP E l K h := fun cap hcap => by
  refine hk _ _ _ (Ext.push _ _) ⟨rfl, ?_, fun hp => by cases hp⟩
  refine cellsAt_of (getElem?_push_new _ _) (flatMap_length (k := 1) (enc := encB) (fun _ => rfl) l) ?_
  unfold encB
  rw [flat_single]
  have : (byteCells l).length = l.length := by simp [byteCells]
  simp only [List.drop_zero, Nat.mul_one]
  rw [← this, List.take_left]
  rfl
theorem Own.seesB {B T : Nat} {h : Heap} {s : Sl} {l : Bytes} (ho : Own B T 1 encB h s l) : Sees 1 encB h s l := Own.sees (enc := encB) (fun _ => rfl) ho
/-! ### New cells -/
theorem newP_one {α : Type} {E k : Nat} {enc : α → List Value} {x : α} {cs : List Value} {h : Heap} {K : Addr → PP} (hcs : cs = enc x) (hl : (enc x).length = k)
    (hk : ∀ h', h' = h.push (.cells cs.toArray E (0, 0)) → Ext h h' → Sees k enc h' ⟨some ⟨h.size, 0, none⟩, 1, 1⟩ [x] → K ⟨h.size, 0, none⟩ h') : newP E cs K h := by
  subst hcs
  refine hk _ rfl (Ext.push _ _) ⟨rfl, ?_, fun hp => by cases hp⟩
  exact cellsAt_of (getElem?_push_new _ _) (by simp [hl]) (by simp [← hl])
/-- A new variable that is set at once. -/
theorem sts_new {P : PP} : ∀ (l : List Sc) (t : Tup l) (i : Nat) (b : Nat) (h : Heap) (cs : Array Value) (E : TypeId), h[b]? = some (.cells cs E (0, 0)) → i + l.length ≤ cs.size → (∀ s ∈ l, s ≠ .any) →
    (∀ h' cs', h'[b]? = some (.cells cs' E (0, 0)) → cs'.size = cs.size → h'.size = h.size → (∀ n, n ≠ b → h'[n]? = h[n]?) → (∀ n v, n < i → cs[n]? = some v → cs'[n]? = some v) → (∀ n v, (injs l t)[n]? = some v → cs'[i + n]? = some v) → P h') →
    stsP ⟨b, 0, none⟩ l t i P h
  | [], _, i, b, h, cs, E, hb, _, _, hP => hP h cs hb rfl rfl (fun _ _ => rfl) (fun _ _ _ hv => hv) (by simp [injs])
  | s :: l, t, i, b, h, cs, E, hb, hlen, hany, hP => by
    simp only [List.length_cons] at hlen
    refine ⟨⟨?_, ?_, ?_⟩, ?_⟩
    · rw [add_mk, hcell_cells hb]
      exact ⟨cs[0 + i]'(by omega), by simp⟩
    · rw [add_mk]; exact hfrozen_cells hb
    · cases s <;> first | trivial | exact absurd rfl (hany .any (by simp))
    · rw [add_mk, Nat.zero_add]
      refine sts_new l t.2 (i + 1) b _ (cs.setIfInBounds i (s.inj t.1)) E (hset_at hb _) (by simp; omega) (fun x hx => hany x (by simp [hx])) fun h' cs' h1 h2 h3 h4 h5 h6 => ?_
      refine hP h' cs' h1 (by rw [h2]; simp) (by rw [h3]; simp) (fun n hn => by rw [h4 n hn, hset_other (Ne.symm hn)]) (fun n v hn hv => h5 n v (by omega) ?_) fun n v hv => ?_
      · rw [Array.getElem?_setIfInBounds, if_neg (by omega)]; exact hv
      · cases n with
        | zero =>
          have hv : some (s.inj t.1) = some v := hv
          cases hv
          refine h5 i _ (by omega) ?_
          rw [Array.getElem?_setIfInBounds]
          simp
          omega
        | succ n =>
          have := h6 n v (by simpa [injs] using hv)
          rw [show i + (n + 1) = i + 1 + n from by omega]
          exact this
/-! ### Regions in which nothing turns -/
theorem draw_ext {A : PP → PP} {h : Heap} (hk : A (fun h' => Ext h h') h) : drawT A h := ⟨_, Ext.refl h, hk⟩
theorem ldG_ext {h0 h : Heap} {s : Sc} {a : Addr} {x : s.T} {K : s.T → PP} (hc : hcell h0 a = some (s.inj x)) (hk : K x h) : ldG (fun h' => Ext h0 h') s a K h := ⟨x, fun _ e => e.cell hc, hk⟩
theorem with_ext {h0 h : Heap} {K : PP} (e : Ext h0 h) (hk : K h) : withS (fun h' => Ext h0 h') K h := ⟨e, hk⟩
/-! ### Local rows -/
/-- Nothing but the row of slice s has turned. -/
def But (s : Sl) (h h' : Heap) : Prop := h.size ≤ h'.size ∧ ∀ b o, h[b]? = some o → s.p.map (·.block) ≠ some b → h'[b]? = some o
theorem But.refl (s : Sl) (h : Heap) : But s h h := ⟨Nat.le_refl _, fun _ _ hb _ => hb⟩
theorem But.up {B : Nat} {s : Sl} {h h' : Heap} (b : But s h h') (hs : ∀ a, s.p = some a → B ≤ a.block) : Up B h h' :=
  ⟨b.1, fun n o hn hm => b.2 n o hn fun he => by
    rcases hm with hm | hm
    · cases hp : s.p with
      | none => rw [hp] at he; cases he
      | some a =>
        rw [hp] at he
        have := hs a hp
        simp at he
        omega
    · cases hm⟩
theorem Own.low {α : Type} {B T k : Nat} {enc : α → List Value} {h : Heap} {s : Sl} {xs : List α} (ho : Own B T k enc h s xs) : ∀ a, s.p = some a → B ≤ a.block := fun a ha => by
  have := ho.row
  rw [ha] at this
  exact this.2.2.1
/-- One more element. -/
theorem app_one {α : Type} {B T E k bytes : Nat} {z : Array Value} {enc : α → List Value} {cs : List Value} {x : α} (hk : ∀ x, (enc x).length = k) (h1 : ∀ x, ∀ v ∈ enc x, v.oneCell' = true) {h : Heap} {s : Sl} {xs : List α} {K : Option Addr → Nat → Nat → PP}
    (hcs : cs = enc x) (hz : z.size = k) (ho : Own B T k enc h s xs) (hB : B ≤ h.size) (hbd : (2 * (xs.length + 1) + 192) * bytes ≤ 2 ^ 48)
    (hK : ∀ s' h', Own B T k enc h' s' (xs ++ [x]) → But s h h' → (∀ a, s'.p = some a → s.p.map (·.block) = some a.block ∨ h.size ≤ a.block) → K s'.p s'.len s'.cap h') :
    newP E cs (fun a => appP T k bytes z s.p s.len s.cap (.slice (some a) 1 1) K) h := by
  refine newP_one hcs (hk x) fun h1' _ e hs => ?_
  refine own_append (ys := [x]) hk h1 hz (ho.ext e) (Nat.le_trans hB e.size) ?_ rfl (by simpa using hbd) fun s' h' o1 o2 o3 o4 => hK s' h' o1 ⟨Nat.le_trans e.size o2, fun b o hb hne => o3 b o (e.at' hb) (.inl hne)⟩ fun a ha => (o4 a ha).imp id (Nat.le_trans e.size)
  exact hs.at_
/-- A string's bytes behind others. -/
theorem app_str {B T bytes : Nat} {z : Array Value} {h : Heap} {s : Sl} {xs ys : Bytes} {K : Option Addr → Nat → Nat → PP}
    (hz : z.size = 1) (ho : Own B T 1 encB h s xs) (hB : B ≤ h.size) (hbd : (2 * (xs.length + ys.length) + 192) * bytes ≤ 2 ^ 48)
    (hK : ∀ s' h', Own B T 1 encB h' s' (xs ++ ys) → But s h h' → (∀ a, s'.p = some a → s.p.map (·.block) = some a.block ∨ h.size ≤ a.block) → K s'.p s'.len s'.cap h') :
    appP T 1 bytes z s.p s.len s.cap (.string (bs ys)) K h := by
  refine own_append (enc := encB) (ys := ys) (fun _ => rfl) (fun x v hv => by simp at hv; subst hv; rfl) hz ho hB ?_ rfl hbd fun s' h' o1 o2 o3 o4 => hK s' h' o1 ⟨o2, fun b o hb hne => o3 b o hb (.inl hne)⟩ o4
  show ys.flatMap encB = byteCells (bs ys).data.toList
  unfold encB
  rw [flat_single]
  rfl
/-- A slice's elements behind others. -/
theorem app_sl {α : Type} {B T k bytes : Nat} {z : Array Value} {enc : α → List Value} (hk : ∀ x, (enc x).length = k) (h1 : ∀ x, ∀ v ∈ enc x, v.oneCell' = true) {h : Heap} {s t : Sl} {xs ys : List α} {K : Option Addr → Nat → Nat → PP}
    (hz : z.size = k) (ho : Own B T k enc h s xs) (ht : Sees k enc h t ys) (hB : B ≤ h.size) (hbd : (2 * (xs.length + ys.length) + 192) * bytes ≤ 2 ^ 48)
    (hK : ∀ s' h', Own B T k enc h' s' (xs ++ ys) → But s h h' → (∀ a, s'.p = some a → s.p.map (·.block) = some a.block ∨ h.size ≤ a.block) → K s'.p s'.len s'.cap h') :
    appP T k bytes z s.p s.len s.cap (.slice t.p t.len t.cap) K h := by
  refine own_append (ys := ys) hk h1 hz ho hB ?_ ht.len hbd fun s' h' o1 o2 o3 o4 => hK s' h' o1 ⟨o2, fun b o hb hne => o3 b o hb (.inl hne)⟩ o4
  exact ht.at_
end Go.Shal
end
section
set_option linter.unusedVariables false
namespace Go.Shal
open Go
/-- Block b is a variable (or a struct) of type E with these cells. -/
def Loc (b : Nat) (E : TypeId) (vs : List Value) (h : Heap) : Prop := h[b]? = some (.cells vs.toArray E (0, 0))
/-- Nothing but block b has turned. -/
def Only (b : Nat) (h h' : Heap) : Prop := h'.size = h.size ∧ ∀ n, n ≠ b → h'[n]? = h[n]?
theorem Only.refl (b : Nat) (h : Heap) : Only b h h := ⟨rfl, fun _ _ => rfl⟩
theorem Only.trans {b : Nat} {h h1 h2 : Heap} (a : Only b h h1) (c : Only b h1 h2) : Only b h h2 := ⟨c.1.trans a.1, fun n hn => (c.2 n hn).trans (a.2 n hn)⟩
theorem Only.up {b B : Nat} {h h' : Heap} (o : Only b h h') (hB : B ≤ b) : Up B h h' :=
  ⟨Nat.le_of_eq o.1.symm, fun n x hn hm => by
    rcases hm with hm | hm
    · rw [o.2 n (by omega)]; exact hn
    · cases hm⟩
theorem Only.keep {b B : Nat} {M : Obj → Bool} {h h' : Heap} (o : Only b h h') (hB : B ≤ b) {x : Obj} (hb : h[b]? = some x) (hM : M x = true) : Keep B M h h' :=
  ⟨Nat.le_of_eq o.1.symm, fun n y hn hm => by
    by_cases he : n = b
    · subst he
      rw [hb] at hn
      cases hn
      rcases hm with hm | hm
      · omega
      · rw [hM] at hm; cases hm
    · rw [o.2 n he]; exact hn⟩
theorem Loc.lt {b : Nat} {E : TypeId} {vs : List Value} {h : Heap} (l : Loc b E vs h) : b < h.size := lt_of_some l
theorem Loc.ext {b : Nat} {E : TypeId} {vs : List Value} {h h' : Heap} (l : Loc b E vs h) (e : Ext h h') : Loc b E vs h' := e.at' l
theorem Loc.only {b c : Nat} {E : TypeId} {vs : List Value} {h h' : Heap} (l : Loc c E vs h) (o : Only b h h') (hne : c ≠ b) : Loc c E vs h' := by
  unfold Loc
  rw [o.2 c hne]
  exact l
theorem Loc.but {c : Nat} {E : TypeId} {vs : List Value} {s : Sl} {h h' : Heap} (l : Loc c E vs h) (o : But s h h') (hne : s.p.map (·.block) ≠ some c) : Loc c E vs h' := o.2 _ _ l hne
theorem Loc.keep {b B : Nat} {M : Obj → Bool} {E : TypeId} {vs : List Value} {h h' : Heap} (l : Loc b E vs h) (k : Keep B M h h') (hM : b < B ∨ M (.cells vs.toArray E (0, 0)) = false) : Loc b E vs h' := k.at_ _ _ l hM
theorem Loc.cell {b n : Nat} {E : TypeId} {vs : List Value} {v : Value} {h : Heap} (l : Loc b E vs h) (hv : vs[n]? = some v) : hcell h ((⟨b, 0, none⟩ : Addr).add n) = some v := by
  rw [add_mk, hcell_cells l]
  simpa using hv
theorem Loc.cell0 {b : Nat} {E : TypeId} {v : Value} {vs : List Value} {h : Heap} (l : Loc b E (v :: vs) h) : hcell h ⟨b, 0, none⟩ = some v := l.cell (n := 0) rfl
theorem ld_loc {b n : Nat} {E : TypeId} {vs : List Value} {s : Sc} {x : s.T} {K : s.T → PP} {h : Heap} (l : Loc b E vs h) (hv : vs[n]? = some (s.inj x)) (hk : K x h) : ld s ((⟨b, 0, none⟩ : Addr).add n) K h := ⟨x, l.cell hv, hk⟩
theorem lds_at {l : List Sc} {a : Addr} {F : Fn l} {h : Heap} (t : Tup l) (hc : ∀ n v, (injs l t)[n]? = some v → hcell h (a.add n) = some v) (hk : unc l F t h) : lds l a F h := by
  unfold lds
  have : ∀ (l : List Sc) (i : Nat) (F : Fn l) (t : Tup l), (∀ n v, (injs l t)[n]? = some v → hcell h (a.add (i + n)) = some v) → unc l F t h → ldsT (fun p => p h) a l i F h := by
    intro l
    induction l with
    | nil => intro i F t _ hk; exact hk
    | cons s l ih =>
      intro i F t hc hk
      exact ⟨t.1, hc 0 _ rfl, ih (i + 1) (F t.1) t.2 (fun n v hv => by rw [show i + 1 + n = i + (n + 1) from by omega]; exact hc (n + 1) v (by simpa [injs] using hv)) hk⟩
  exact this l 0 F t (fun n v hv => by rw [Nat.zero_add]; exact hc n v hv) hk
theorem ldsG_at {S : PP} {l : List Sc} {a : Addr} {F : Fn l} {h : Heap} (t : Tup l) (hc : ∀ n v, (injs l t)[n]? = some v → always S fun h' => hcell h' (a.add n) = some v) (hk : unc l F t h) : ldsG S l a F h := by
  unfold ldsG
  have : ∀ (l : List Sc) (i : Nat) (F : Fn l) (t : Tup l), (∀ n v, (injs l t)[n]? = some v → always S fun h' => hcell h' (a.add (i + n)) = some v) → unc l F t h → ldsT (always S) a l i F h := by
    intro l
    induction l with
    | nil => intro i F t _ hk; exact hk
    | cons s l ih =>
      intro i F t hc hk
      exact ⟨t.1, hc 0 _ rfl, ih (i + 1) (F t.1) t.2 (fun n v hv => by rw [show i + 1 + n = i + (n + 1) from by omega]; exact hc (n + 1) v (by simpa [injs] using hv)) hk⟩
  exact this l 0 F t (fun n v hv => by rw [Nat.zero_add]; exact hc n v hv) hk
theorem ldsG_ext {h0 : Heap} {l : List Sc} {a : Addr} {F : Fn l} {h : Heap} (t : Tup l) (hc : ∀ n v, (injs l t)[n]? = some v → hcell h0 (a.add n) = some v) (hk : unc l F t h) : ldsG (fun h' => Ext h0 h') l a F h :=
  ldsG_at t (fun n v hv _ e => e.cell (hc n v hv)) hk
theorem lds_loc {b : Nat} {E : TypeId} {l : List Sc} {F : Fn l} {h : Heap} (t : Tup l) (hl : Loc b E (injs l t) h) (hk : unc l F t h) : lds l ⟨b, 0, none⟩ F h := lds_at t (fun n v hv => hl.cell hv) hk
theorem newP_loc {E : TypeId} {cs : List Value} {h : Heap} {K : Addr → PP} (hk : ∀ h', Ext h h' → h'.size = h.size + 1 → Loc h.size E cs h' → K ⟨h.size, 0, none⟩ h') : newP E cs K h :=
  hk _ (Ext.push _ _) (by simp) (getElem?_push_new _ _)
theorem st_loc {b n : Nat} {E : TypeId} {vs : List Value} {s : Sc} {x : s.T} {K : PP} {h : Heap} (l : Loc b E vs h) (hn : n < vs.length) (hs : s ≠ .any)
    (hk : ∀ h', Loc b E (vs.set n (s.inj x)) h' → Only b h h' → K h') : stP s ((⟨b, 0, none⟩ : Addr).add n) x K h := by
  refine ⟨⟨⟨vs[n], ?_⟩, ?_, ?_⟩, ?_⟩
  · exact l.cell (List.getElem?_eq_getElem hn)
  · rw [add_mk]; exact hfrozen_cells l
  · cases s <;> first | trivial | exact absurd rfl hs
  · rw [add_mk, Nat.zero_add]
    refine hk _ ?_ ⟨by simp, fun m hm => hset_other (Ne.symm hm)⟩
    unfold Loc
    rw [hset_at l]
    simp
theorem st_loc0 {b : Nat} {E : TypeId} {v : Value} {vs : List Value} {s : Sc} {x : s.T} {K : PP} {h : Heap} (l : Loc b E (v :: vs) h) (hs : s ≠ .any)
    (hk : ∀ h', Loc b E (s.inj x :: vs) h' → Only b h h' → K h') : stP s ⟨b, 0, none⟩ x K h := st_loc (n := 0) l (by simp) hs hk
theorem sts_loc {b : Nat} {E : TypeId} {vs : List Value} {l : List Sc} {t : Tup l} {K : PP} {h : Heap} (hl : Loc b E vs h) (hlen : vs.length = l.length) (hany : ∀ s ∈ l, s ≠ .any)
    (hk : ∀ h', Loc b E (injs l t) h' → Only b h h' → K h') : stsP ⟨b, 0, none⟩ l t 0 K h := by
  refine sts_new l t 0 b h _ E hl (by simp [hlen]) hany fun h' cs' h1 h2 h3 h4 _ h6 => hk h' ?_ ⟨h3, h4⟩
  unfold Loc
  rw [h1]
  congr 2
  apply Array.ext'
  have e1 : cs'.toList.length = l.length := by rw [Array.length_toList, h2, List.size_toArray, hlen]
  apply List.ext_getElem?
  intro n
  by_cases hn : n < l.length
  · have hn' : n < (injs l t).length := by rw [injs_length]; exact hn
    rw [List.getElem?_eq_getElem hn']
    have := h6 n _ (List.getElem?_eq_getElem hn')
    rw [Nat.zero_add] at this
    simpa using this
  · rw [List.getElem?_eq_none (by omega)]
    simp only
    rw [List.getElem?_eq_none (by rw [injs_length]; omega)]
/-- Results are put into their variable and read out of it. -/
theorem ret_loc {b : Nat} {E : TypeId} {vs : List Value} {l : List Sc} {t : Tup l} {F : Fn l} {h : Heap} (hl : Loc b E vs h) (hlen : vs.length = l.length) (hany : ∀ s ∈ l, s ≠ .any)
    (hk : ∀ h', Only b h h' → unc l F t h') : stsP ⟨b, 0, none⟩ l t 0 (lds l ⟨b, 0, none⟩ F) h :=
  sts_loc hl hlen hany fun h' l1 o1 => lds_loc t l1 (hk h' o1)
theorem Own.only {α : Type} {B T k b : Nat} {enc : α → List Value} {h h' : Heap} {s : Sl} {xs : List α} (ho : Own B T k enc h s xs) (o : Only b h h') (hne : s.p.map (·.block) ≠ some b) : Own B T k enc h' s xs :=
  ho.keep fun n cs hn _ hp => by rw [o.2 n (by rintro rfl; exact hne hp)]; exact hn
theorem Own.but {α β : Type} {B T k : Nat} {enc : α → List Value} {h h' : Heap} {s t : Sl} {xs : List α} (ho : Own B T k enc h s xs) (o : But t h h') (hne : ∀ n, s.p.map (·.block) = some n → t.p.map (·.block) ≠ some n) : Own B T k enc h' s xs :=
  ho.keep fun n cs hn _ hp => o.2 n _ hn (hne n hp)
theorem Own.rowne {α : Type} {B T k b : Nat} {enc : α → List Value} {h : Heap} {s : Sl} {xs : List α} (ho : Own B T k enc h s xs) {E : TypeId} {vs : List Value} (l : Loc b E vs h) (hE : E ≠ T) : s.p.map (·.block) ≠ some b := by
  intro he
  have hr := ho.row
  cases hp : s.p with
  | none => rw [hp] at he; cases he
  | some a =>
    rw [hp] at he hr
    obtain ⟨_, _, _, cs, h4, _⟩ := hr
    simp at he
    rw [he, l] at h4
    cases h4
    exact hE rfl
theorem join_u {A : PP → PP} {B : PP} {h : Heap} (R : PP) (ha : A R h) (hb : ∀ h', R h' → B h') : joinT [] A B h := ⟨R, ha, fun _ h' hr => hb h' hr⟩
theorem join_1 {s : Sc} {A : (s.T → PP) → PP} {B : s.T → PP} {h : Heap} (R : s.T → PP) (ha : A R h) (hb : ∀ x h', R x h' → B x h') : joinT [s] A B h := ⟨R, ha, fun t h' hr => hb t.1 h' hr⟩
/-- Where ways meet with a bool that is known. -/
theorem join_b {A : (Bool → PP) → PP} {B : Bool → PP} {h : Heap} (p : Bool) (R : PP) (ha : A (fun b h' => b = p ∧ R h') h) (hb : ∀ h', R h' → B p h') : joinT [.bool] A B h :=
  ⟨fun b h' => b = p ∧ R h', ha, fun t h' ht => by
    obtain ⟨b, u⟩ := t
    have h1 : b = p := ht.1
    subst h1
    exact hb h' ht.2⟩
theorem newP_sees {α : Type} {E k n : Nat} {enc : α → List Value} {xs : List α} {cs : List Value} {h : Heap} {K : Addr → PP} (hk : ∀ x, (enc x).length = k) (hcs : cs = xs.flatMap enc) (hn : xs.length = n)
    (hK : ∀ h', Ext h h' → h'.size = h.size + 1 → Sees k enc h' ⟨some ⟨h.size, 0, none⟩, n, n⟩ xs → K ⟨h.size, 0, none⟩ h') : newP E cs K h := by
  subst hcs hn
  refine hK _ (Ext.push _ _) (by simp) ⟨rfl, ?_, fun hp => by cases hp⟩
  exact cellsAt_of (getElem?_push_new _ _) (flatMap_length hk xs) (by rw [List.drop_zero]; show List.take (xs.length * k) _ = _; rw [← flatMap_length hk xs, List.take_length])
theorem draw_with {S : PP} {A : PP → PP} {h : Heap} (hs : S h) (hk : A S h) : drawT A h := ⟨S, hs, hk⟩
theorem ldG_with {S : PP} {s : Sc} {a : Addr} {x : s.T} {K : s.T → PP} {h : Heap} (hc : ∀ h', S h' → hcell h' a = some (s.inj x)) (hk : K x h) : ldG S s a K h := ⟨x, hc, hk⟩
theorem with_of {S : PP} {K : PP} {h : Heap} (hs : S h) (hk : K h) : withS S K h := ⟨hs, hk⟩
theorem draw_loc {b : Nat} {E : TypeId} {vs : List Value} {A : PP → PP} {h : Heap} (l : Loc b E vs h) (hk : A (Loc b E vs) h) : drawT A h := ⟨_, l, hk⟩
theorem ldG_loc {b n : Nat} {E : TypeId} {vs : List Value} {s : Sc} {x : s.T} {K : s.T → PP} {h : Heap} (hv : vs[n]? = some (s.inj x)) (hk : K x h) : ldG (Loc b E vs) s ((⟨b, 0, none⟩ : Addr).add n) K h := ⟨x, fun _ l => l.cell hv, hk⟩
theorem idx_const {size n k : Nat} {i : Int} {a : Addr} {K : Addr → PP} {h : Heap} (hi : i = (k : Int)) (hk : k < n) (hK : K (a.add (k * size)) h) : idxP size (some a) n i K h := by
  subst hi
  exact ⟨a, rfl, ⟨by omega, by omega⟩, by simpa using hK⟩
theorem sliceSl_of {size cap lo hi : Nat} {a : Addr} {l r m : Int} {K : Option Addr → Nat → Nat → PP} {h : Heap} (hl : l = (lo : Int)) (hr : r = (hi : Int)) (hm : m = (cap : Int)) (h1 : lo ≤ hi) (h2 : hi ≤ cap) (h3 : lo < cap)
    (hK : K (some (a.add (lo * size))) (hi - lo) (cap - lo) h) : sliceSl size (some a) cap l r m K h := by
  subst hl hr hm
  refine ⟨⟨by omega, by omega, by omega, by omega⟩, ?_⟩
  rw [if_neg (by omega)]
  simpa using hK
/-- A variable of bytes. -/
abbrev LocB (b : Nat) (E : TypeId) (l : Bytes) (h : Heap) : Prop := Loc b E (byteCells l) h
theorem st_byte {b n : Nat} {E : TypeId} {l : Bytes} {v : Int} {c : UInt8} {K : PP} {h : Heap} (hl : LocB b E l h) (hn : n < l.length) (hv : v = (c.toNat : Int)) (hk : ∀ h', LocB b E (l.set n c) h' → Only b h h' → K h') :
    stP (.int .u8) ((⟨b, 0, none⟩ : Addr).add n) v K h := by
  subst hv
  refine st_loc (s := .int .u8) hl (by simpa [byteCells] using hn) (by decide) fun h' l' o => hk h' ?_ o
  have e : (byteCells l).set n (Sc.inj (.int .u8) (c.toNat : Int)) = byteCells (l.set n c) := by
    unfold byteCells
    rw [List.map_set]
    rfl
  rw [e] at l'
  exact l'
theorem ld_byte {b n : Nat} {E : TypeId} {l : Bytes} {c : UInt8} {K : Int → PP} {h : Heap} (hl : LocB b E l h) (hc : l[n]? = some c) (hk : K (c.toNat : Int) h) : ld (.int .u8) ((⟨b, 0, none⟩ : Addr).add n) K h :=
  ld_loc (s := .int .u8) (x := (c.toNat : Int)) hl (by simp [byteCells, hc]; rfl) hk
theorem bytes_loc {b o n : Nat} {E : TypeId} {l t : Bytes} {K : Bytes → PP} {h : Heap} (hl : LocB b E l h) (ht : (l.drop o).take n = t) (hn : t.length = n) (hk : K t h) : bytesP (some ((⟨b, 0, none⟩ : Addr).add o)) n K h := by
  refine ⟨t, ⟨hn, fun i v hv => ?_⟩, hk⟩
  rw [add_add]
  refine hl.cell ?_
  have : ((l.drop o).take n)[i]? = some v := by rw [ht]; exact hv
  rw [List.getElem?_take] at this
  split at this
  · rw [List.getElem?_drop] at this
    simp [byteCells, this]
  · cases this
theorem copy_str {b o n : Nat} {E : TypeId} {l d : Bytes} {K : Nat → PP} {h : Heap} (hl : LocB b E l h) (hd : d.length ≤ n) (hn : o + n ≤ l.length)
    (hk : ∀ h', LocB b E (l.take o ++ d ++ l.drop (o + d.length)) h' → Only b h h' → K d.length h') : copyP 1 (some ((⟨b, 0, none⟩ : Addr).add o)) n (.string (bs d)) K h := by
  have bl : ∀ l : Bytes, (byteCells l).length = l.length := fun l => by simp [byteCells]
  have hs : srcLen (.string (bs d)) = d.length := rfl
  refine ⟨byteCells d, rfl, by rw [bl, hs]; simp, ?_⟩
  rw [hs, Nat.min_eq_left hd]
  dsimp only
  rw [Nat.mul_one, ← bl d, List.take_length, add_mk, Nat.zero_add]
  refine putP_row (byteCells d) b o 0 h (byteCells l).toArray E hl (by simp [bl]; omega) (fun v hv => ?_) fun h' cs' h1 h2 h3 h4 => ?_
  · simp only [byteCells, List.mem_map] at hv
    obtain ⟨c, _, rfl⟩ := hv
    rfl
  · rw [bl]
    refine hk h' ?_ ⟨h3, h4⟩
    unfold LocB Loc
    rw [h1]
    congr 2
    apply Array.ext'
    rw [h2]
    simp [byteCells, List.map_take, List.map_drop]
theorem But.keepT {α : Type} {B T k : Nat} {enc : α → List Value} {Ts : List TypeId} {h h' : Heap} {s : Sl} {xs : List α} (ho : Own B T k enc h s xs) (b : But s h h') (hT : memN T Ts = true) : Keep 0 (rowsOf Ts) h h' :=
  ⟨b.1, fun n o hn hm => b.2 n o hn fun he => by
    have hr := ho.row
    cases hp : s.p with
    | none => rw [hp] at he; cases he
    | some a =>
      rw [hp] at he hr
      obtain ⟨_, _, _, cs, h4, _⟩ := hr
      simp at he
      rw [he, hn] at h4
      cases h4
      rcases hm with hm | hm
      · omega
      · simp [rowsOf, hT] at hm⟩
theorem But.keepO {α : Type} {B T k : Nat} {enc : α → List Value} {M : Obj → Bool} {h h' : Heap} {s : Sl} {xs : List α} (ho : Own B T k enc h s xs) (b : But s h h') (hM : ∀ cs, M (.cells cs T (0, 0)) = true) : Keep B M h h' :=
  ⟨b.1, fun n o hn hm => b.2 n o hn fun he => by
    have hr := ho.row
    cases hp : s.p with
    | none => rw [hp] at he; cases he
    | some a =>
      rw [hp] at he hr
      obtain ⟨_, _, h3, cs, h4, _⟩ := hr
      simp at he
      rw [he] at h3 h4
      rw [hn] at h4
      cases h4
      rcases hm with hm | hm
      · omega
      · rw [hM] at hm; cases hm⟩
/-! ### Slices that are read, with what their rows are -/
/-- .. and its row lies below B, or is a row of T's. -/
structure View {α : Type} (B T k : Nat) (enc : α → List Value) (h : Heap) (s : Sl) (xs : List α) : Prop where
  sees : Sees k enc h s xs
  loc : xs ≠ [] → ∀ a, s.p = some a → a.block < B ∨ ∃ cs, h[a.block]? = some (.cells cs T (0, 0))
theorem Sees.empty {α : Type} {k : Nat} {enc : α → List Value} {h h' : Heap} {s : Sl} (v : Sees k enc h s []) : Sees k enc h' s [] := by
  have hl : s.len = 0 := v.len
  refine ⟨v.len, ?_, v.none_⟩
  rw [hl, Nat.zero_mul]
  cases s.p with
  | none => rfl
  | some a => exact ⟨rfl, fun j x hj => by simp at hj⟩
theorem View.keep {α : Type} {B B' T k : Nat} {M : Obj → Bool} {enc : α → List Value} {h h' : Heap} {s : Sl} {xs : List α} (v : View B T k enc h s xs) (u : Keep B' M h h') (hB : B ≤ B') (hM : ∀ cs, M (.cells cs T (0, 0)) = false) : View B T k enc h' s xs := by
  by_cases hx : xs = []
  · subst hx
    exact ⟨v.sees.empty, fun h => absurd rfl h⟩
  · exact ⟨v.sees.keep u fun a ha => (v.loc hx a ha).imp (fun h => Nat.lt_of_lt_of_le h hB) fun ⟨cs, hc⟩ => ⟨_, hc, hM cs⟩,
      fun _ a ha => (v.loc hx a ha).imp id fun ⟨cs, hc⟩ => ⟨cs, u.at_ _ _ hc (.inr (hM cs))⟩⟩
theorem View.ext {α : Type} {B T k : Nat} {enc : α → List Value} {h h' : Heap} {s : Sl} {xs : List α} (v : View B T k enc h s xs) (u : Ext h h') : View B T k enc h' s xs := v.keep (u.keep B none_) (Nat.le_refl _) fun _ => rfl
theorem Own.view {α : Type} {B B' T k : Nat} {enc : α → List Value} (hk : ∀ x, (enc x).length = k) {h : Heap} {s : Sl} {xs : List α} (ho : Own B T k enc h s xs) : View B' T k enc h s xs :=
  ⟨ho.sees hk, fun _ a ha => by
    have := ho.row
    rw [ha] at this
    obtain ⟨_, _, _, cs, h4, _⟩ := this
    exact .inr ⟨cs, h4⟩⟩
end Go.Shal
end
section
set_option linter.unusedVariables false
namespace Go.Shal
open Go
def keyB (e : MapEntry) : Bytes :=
  match e.key with
  | .string s => s.data.toList
  | _ => []
def kvB (e : MapEntry) : Bytes × Value := (keyB e, e.val)
theorem bs_inj {a b : Bytes} (h : bs a = bs b) : a = b := by
  have := congrArg (fun x : ByteArray => x.data.toList) h
  exact this
/-- The entries hold these pairs. -/
structure Rep (es : Array MapEntry) (clock : Nat) (ps : List (Bytes × Value)) : Prop where
  keys : ∀ e ∈ es.toList, e.key = .string (bs (keyB e))
  perm : (es.toList.map kvB).Perm ps
  nodup : (ps.map (·.1)).Nodup
  born : ∀ e ∈ es.toList, e.born < clock
  stamps : (es.toList.map (·.born)).Nodup
/-- Block r is a map that holds these pairs. -/
def MapIs (r : Nat) (ps : List (Bytes × Value)) (h : Heap) : Prop := ∃ es clock, h[r]? = some (.map es clock) ∧ Rep es clock ps
theorem Rep.strKeys {es : Array MapEntry} {clock : Nat} {ps : List (Bytes × Value)} (R : Rep es clock ps) : strKeys es := fun e he => ⟨_, R.keys e he⟩
theorem Rep.isKey {es : Array MapEntry} {clock : Nat} {ps : List (Bytes × Value)} (R : Rep es clock ps) {e : MapEntry} (he : e ∈ es.toList) (k : Bytes) : isKey k e = decide (k = keyB e) := by
  unfold Shal.isKey
  rw [R.keys e he]
  show (k == keyB e) = _
  rw [Bool.eq_iff_iff]
  simp
theorem Rep.of_perm {es : Array MapEntry} {clock : Nat} {ps qs : List (Bytes × Value)} (R : Rep es clock ps) (p : ps.Perm qs) : Rep es clock qs :=
  ⟨R.keys, R.perm.trans p, (p.map _).nodup_iff.1 R.nodup, R.born, R.stamps⟩
theorem MapIs.of_perm {r : Nat} {ps qs : List (Bytes × Value)} {h : Heap} (m : MapIs r ps h) (p : ps.Perm qs) : MapIs r qs h := let ⟨es, c, hb, R⟩ := m; ⟨es, c, hb, R.of_perm p⟩
theorem Rep.keysNodup {es : Array MapEntry} {clock : Nat} {ps : List (Bytes × Value)} (R : Rep es clock ps) : (es.toList.map keyB).Nodup := by
  have := (R.perm.map (·.1)).nodup_iff.2 R.nodup
  rw [List.map_map] at this
  exact this
theorem MapIs.lt {r : Nat} {ps : List (Bytes × Value)} {h : Heap} (m : MapIs r ps h) : r < h.size := let ⟨_, _, hb, _⟩ := m; lt_of_some hb
theorem MapIs.at_ {r : Nat} {ps : List (Bytes × Value)} {h h' : Heap} (m : MapIs r ps h) (e : ∀ o, h[r]? = some o → h'[r]? = some o) : MapIs r ps h' := let ⟨es, c, hb, R⟩ := m; ⟨es, c, e _ hb, R⟩
theorem MapIs.ext {r : Nat} {ps : List (Bytes × Value)} {h h' : Heap} (m : MapIs r ps h) (u : Ext h h') : MapIs r ps h' := m.at_ fun _ ho => u.at' ho
theorem MapIs.only {r b : Nat} {ps : List (Bytes × Value)} {h h' : Heap} (m : MapIs r ps h) (o : Only b h h') (hne : r ≠ b) : MapIs r ps h' := m.at_ fun _ ho => by rw [o.2 r hne]; exact ho
theorem MapIs.but {r : Nat} {ps : List (Bytes × Value)} {h h' : Heap} {s : Sl} (m : MapIs r ps h) (o : But s h h') (hne : s.p.map (·.block) ≠ some r) : MapIs r ps h' := m.at_ fun _ ho => o.2 _ _ ho hne
theorem MapIs.empty (h : Heap) : MapIs h.size [] (h.push (.map #[] 0)) :=
  ⟨#[], 0, getElem?_push_new _ _, ⟨by simp, by simp, by simp, by simp, by simp⟩⟩
theorem newM_of {h : Heap} {K : Nat → PP} (hk : ∀ h', Ext h h' → h'.size = h.size + 1 → MapIs h.size [] h' → K h.size h') : newM K h := hk _ (Ext.push _ _) (by simp) (MapIs.empty h)
theorem Rep.found {es : Array MapEntry} {clock : Nat} {ps : List (Bytes × Value)} (R : Rep es clock ps) {k : Bytes} {v : Value} (hv : (k, v) ∈ ps) : ∃ e, es.toList.find? (Shal.isKey k) = some e ∧ e.val = v := by
  obtain ⟨e0, he0, hk0⟩ := List.mem_map.1 (R.perm.mem_iff.2 hv)
  have hkey : keyB e0 = k := congrArg Prod.fst hk0
  cases hf : es.toList.find? (Shal.isKey k) with
  | none =>
    have := List.find?_eq_none.1 hf e0 he0
    rw [R.isKey he0, hkey] at this
    simp at this
  | some e =>
    refine ⟨e, rfl, ?_⟩
    have h1 := List.find?_some hf
    have h2 := List.mem_of_find?_eq_some hf
    rw [R.isKey h2, decide_eq_true_eq] at h1
    have hm : kvB e ∈ ps := R.perm.mem_iff.1 (List.mem_map_of_mem h2)
    have hm' : (k, e.val) ∈ ps := by have e1 : kvB e = (k, e.val) := by unfold kvB; rw [← h1]
                                     rw [e1] at hm; exact hm
    have : ∀ (ps : List (Bytes × Value)), (ps.map (·.1)).Nodup → (k, e.val) ∈ ps → (k, v) ∈ ps → e.val = v := by
      intro ps
      induction ps with
      | nil => intro _ h; simp at h
      | cons p ps ih =>
        intro hn h1 h2
        rw [List.map_cons, List.nodup_cons] at hn
        rcases List.mem_cons.1 h1 with h1 | h1 <;> rcases List.mem_cons.1 h2 with h2 | h2
        · rw [← h1] at h2; exact (congrArg Prod.snd h2).symm
        · exfalso; apply hn.1; rw [← h1]; exact List.mem_map_of_mem (f := (·.1)) h2
        · exfalso; apply hn.1; rw [← h2]; exact List.mem_map_of_mem (f := (·.1)) h1
        · exact ih hn.2 h1 h2
    exact this ps R.nodup hm' hv
theorem Rep.missed {es : Array MapEntry} {clock : Nat} {ps : List (Bytes × Value)} (R : Rep es clock ps) {k : Bytes} (hv : k ∉ ps.map (·.1)) : es.toList.find? (Shal.isKey k) = none := by
  rw [List.find?_eq_none]
  intro e he
  rw [R.isKey he]
  simp only [decide_eq_true_eq]
  rintro rfl
  apply hv
  exact List.mem_map.2 ⟨kvB e, R.perm.mem_iff.1 (List.mem_map_of_mem he), rfl⟩
theorem look_some {r : Nat} {ps : List (Bytes × Value)} {s : Sc} {z x : s.T} {k : Bytes} {K : s.T → Bool → PP} {h : Heap} (m : MapIs r ps h) (hx : (k, s.inj x) ∈ ps) (hk : K x true h) : lookS s z (some r) k K h := by
  obtain ⟨es, c, hb, R⟩ := m
  obtain ⟨e, he, hv⟩ := R.found hx
  refine .inr ⟨r, es, c, rfl, hb, R.strKeys, ?_⟩
  rw [he]
  exact ⟨x, hv, hk⟩
theorem look_none {r : Nat} {ps : List (Bytes × Value)} {s : Sc} {z : s.T} {k : Bytes} {K : s.T → Bool → PP} {h : Heap} (m : MapIs r ps h) (hx : k ∉ ps.map (·.1)) (hk : K z false h) : lookS s z (some r) k K h := by
  obtain ⟨es, c, hb, R⟩ := m
  refine .inr ⟨r, es, c, rfl, hb, R.strKeys, ?_⟩
  rw [R.missed hx]
  exact hk
/-- All but the pairs of a key. -/
def sans (k : Bytes) (ps : List (Bytes × Value)) : List (Bytes × Value) := ps.filter fun p => decide (p.1 ≠ k)
theorem Rep.split {es : Array MapEntry} {clock : Nat} {ps : List (Bytes × Value)} (R : Rep es clock ps) {k : Bytes} {i : Nat} (hi : es.toList.findIdx? (Shal.isKey k) = some i) :
    ∃ l1 e l2, es.toList = l1 ++ e :: l2 ∧ l1.length = i ∧ keyB e = k ∧ ((l1 ++ l2).map kvB).Perm (sans k ps) := by
  obtain ⟨h1, h2, h3⟩ := List.findIdx?_eq_some_iff_getElem.1 hi
  have hsp : es.toList = es.toList.take i ++ es.toList[i] :: es.toList.drop (i + 1) := by rw [← List.drop_eq_getElem_cons h1, List.take_append_drop]
  refine ⟨es.toList.take i, es.toList[i], es.toList.drop (i + 1), hsp, by rw [List.length_take]; omega, ?_, ?_⟩
  · rw [R.isKey (List.getElem_mem h1), decide_eq_true_eq] at h2
    exact h2.symm
  · rw [R.isKey (List.getElem_mem h1), decide_eq_true_eq] at h2
    have hp := (R.perm.filter fun p => decide (p.1 ≠ k))
    refine List.Perm.trans (List.Perm.of_eq ?_) hp
    have hn := R.keysNodup
    rw [hsp, List.map_append, List.map_cons, List.nodup_append] at hn
    obtain ⟨n1, n2, n3⟩ := hn
    rw [List.nodup_cons] at n2
    conv => rhs; rw [hsp]
    rw [List.map_append, List.map_append, List.map_cons, List.filter_append, List.filter_cons_of_neg (by rw [decide_eq_true_eq]; exact fun hh => hh h2.symm)]
    congr 1
    · symm
      rw [List.filter_eq_self]
      intro p hp
      obtain ⟨e, he, rfl⟩ := List.mem_map.1 hp
      simp only [decide_eq_true_eq]
      intro hk
      exact n3 (keyB e) (List.mem_map_of_mem he) (keyB es.toList[i]) (by simp) (by rw [← h2]; exact hk)
    · symm
      rw [List.filter_eq_self]
      intro p hp
      obtain ⟨e, he, rfl⟩ := List.mem_map.1 hp
      simp only [decide_eq_true_eq]
      intro hk
      apply n2.1
      rw [← h2]
      rw [← hk]
      exact List.mem_map_of_mem (f := keyB) he
theorem Rep.absent {es : Array MapEntry} {clock : Nat} {ps : List (Bytes × Value)} (R : Rep es clock ps) {k : Bytes} (hi : es.toList.findIdx? (Shal.isKey k) = none) : sans k ps = ps := by
  unfold sans
  rw [List.filter_eq_self]
  intro p hp
  simp only [decide_eq_true_eq]
  rintro rfl
  obtain ⟨e, he, hk⟩ := List.mem_map.1 (R.perm.mem_iff.2 hp)
  have := List.findIdx?_eq_none_iff.1 hi e he
  rw [R.isKey he] at this
  simp only [decide_eq_false_iff_not] at this
  exact this (congrArg Prod.fst hk).symm
theorem sans_nodup {k : Bytes} {ps : List (Bytes × Value)} (h : (ps.map (·.1)).Nodup) : ((sans k ps).map (·.1)).Nodup := by
  unfold sans
  exact h.sublist ((List.filter_sublist (l := ps)).map _)
theorem sans_not {k : Bytes} {ps : List (Bytes × Value)} : k ∉ (sans k ps).map (·.1) := by
  intro h
  obtain ⟨p, hp, rfl⟩ := List.mem_map.1 h
  have := (List.mem_filter.1 hp).2
  simp at this
theorem Rep.drop {es : Array MapEntry} {clock : Nat} {ps : List (Bytes × Value)} (R : Rep es clock ps) (k : Bytes) : ∃ es', dropE es clock k = .map es' clock ∧ Rep es' clock (sans k ps) := by
  unfold dropE
  cases hi : es.toList.findIdx? (Shal.isKey k) with
  | none => exact ⟨es, rfl, by rw [R.absent hi]; exact R⟩
  | some i =>
    obtain ⟨l1, e, l2, h1, h2, h3, h4⟩ := R.split hi
    refine ⟨_, rfl, ?_⟩
    have ht : (es.eraseIdxIfInBounds i).toList = l1 ++ l2 := by
      rw [Array.toList_eraseIdxIfInBounds, h1, ← h2]
      simp [List.eraseIdx_append_of_length_le]
    have hsub : ∀ x ∈ l1 ++ l2, x ∈ es.toList := by
      intro x hx
      rw [h1]
      rcases List.mem_append.1 hx with h | h
      · exact List.mem_append_left _ h
      · exact List.mem_append_right _ (List.mem_cons_of_mem _ h)
    refine ⟨fun x hx => R.keys x (hsub x (by rw [← ht]; exact hx)), by rw [ht]; exact h4, sans_nodup R.nodup, fun x hx => R.born x (hsub x (by rw [← ht]; exact hx)), ?_⟩
    rw [ht]
    have := R.stamps
    rw [h1] at this
    exact this.sublist (((List.sublist_cons_self e l2).append_left l1).map _)
theorem Rep.put {es : Array MapEntry} {clock : Nat} {ps : List (Bytes × Value)} (R : Rep es clock ps) (k : Bytes) (v : Value) : ∃ es' clock', putE es clock k v = .map es' clock' ∧ Rep es' clock' ((k, v) :: sans k ps) := by
  unfold putE
  cases hi : es.toList.findIdx? (Shal.isKey k) with
  | none =>
    refine ⟨_, _, rfl, ?_⟩
    rw [R.absent hi]
    have hno : k ∉ ps.map (·.1) := by rw [← R.absent hi]; exact sans_not
    refine ⟨fun e he => ?_, ?_, ?_, fun e he => ?_, ?_⟩
    · rw [Array.toList_push, List.mem_append, List.mem_singleton] at he
      rcases he with he | rfl
      · exact R.keys e he
      · rfl
    · rw [Array.toList_push, List.map_append]
      exact (List.perm_append_singleton _ _).trans (List.Perm.cons _ R.perm)
    · rw [List.map_cons, List.nodup_cons]; exact ⟨hno, R.nodup⟩
    · rw [Array.toList_push, List.mem_append, List.mem_singleton] at he
      rcases he with he | rfl
      · have := R.born e he; omega
      · exact Nat.lt_succ_self _
    · rw [Array.toList_push, List.map_append, List.nodup_append]
      refine ⟨R.stamps, by simp, fun a ha b hb => ?_⟩
      obtain ⟨e, he, rfl⟩ := List.mem_map.1 ha
      simp at hb
      subst hb
      have := R.born e he
      omega
  | some i =>
    obtain ⟨l1, e, l2, h1, h2, h3, h4⟩ := R.split hi
    refine ⟨_, _, rfl, ?_⟩
    have ht : (es.modify i fun e => { e with key := .string (bs k), val := v }).toList = l1 ++ { e with key := .string (bs k), val := v } :: l2 := by
      rw [Array.toList_modify, h1, ← h2]
      clear h1 h4
      subst h2
      clear hi
      induction l1 with
      | nil => rfl
      | cons x l1 ih => simp only [List.length_cons, List.cons_append, List.modify_succ_cons, ih]
    have hold : ∀ x ∈ l1 ++ l2, x ∈ es.toList := by
      intro x hx
      rw [h1]
      rcases List.mem_append.1 hx with h | h
      · exact List.mem_append_left _ h
      · exact List.mem_append_right _ (List.mem_cons_of_mem _ h)
    have hmem : ∀ x ∈ l1 ++ { e with key := .string (bs k), val := v } :: l2, x = { e with key := .string (bs k), val := v } ∨ x ∈ l1 ++ l2 := by
      intro x hx
      rcases List.mem_append.1 hx with h | h
      · exact .inr (List.mem_append_left _ h)
      · rcases List.mem_cons.1 h with h | h
        · exact .inl h
        · exact .inr (List.mem_append_right _ h)
    have he0 : e ∈ es.toList := by rw [h1]; simp
    refine ⟨fun x hx => ?_, ?_, ?_, fun x hx => ?_, ?_⟩
    · rw [ht] at hx
      rcases hmem x hx with rfl | hx
      · rfl
      · exact R.keys x (hold x hx)
    · rw [ht, List.map_append, List.map_cons]
      refine List.perm_middle.trans (List.Perm.cons _ ?_)
      rw [← List.map_append]
      exact h4
    · rw [List.map_cons, List.nodup_cons]; exact ⟨sans_not, sans_nodup R.nodup⟩
    · rw [ht] at hx
      rcases hmem x hx with rfl | hx
      · exact R.born e he0
      · exact R.born x (hold x hx)
    · have := R.stamps
      rw [h1] at this
      rw [ht]
      simpa using this
theorem del_of {r : Nat} {ps : List (Bytes × Value)} {k : Bytes} {K : PP} {h : Heap} (m : MapIs r ps h) (hk : ∀ h', MapIs r (sans k ps) h' → Only r h h' → K h') : delP (some r) k K h := by
  obtain ⟨es, c, hb, R⟩ := m
  obtain ⟨es', he, R'⟩ := R.drop k
  refine .inr ⟨r, es, c, rfl, hb, R.strKeys, ?_⟩
  rw [he]
  refine hk _ ⟨es', c, ?_, R'⟩ ⟨by simp, fun n hn => ?_⟩
  · rw [Array.getElem?_setIfInBounds, if_pos rfl, if_pos (lt_of_some hb)]
  · rw [Array.getElem?_setIfInBounds, if_neg (Ne.symm hn)]
theorem upd_of {r : Nat} {ps : List (Bytes × Value)} {k : Bytes} {v : Value} {K : PP} {h : Heap} (m : MapIs r ps h) (hk : ∀ h', MapIs r ((k, v) :: sans k ps) h' → Only r h h' → K h') : updP (some r) k v K h := by
  obtain ⟨es, c, hb, R⟩ := m
  obtain ⟨es', c', he, R'⟩ := R.put k v
  refine ⟨r, es, c, rfl, hb, R.strKeys, ?_⟩
  rw [he]
  refine hk _ ⟨es', c', ?_, R'⟩ ⟨by simp, fun n hn => ?_⟩
  · rw [Array.getElem?_setIfInBounds, if_pos rfl, if_pos (lt_of_some hb)]
  · rw [Array.getElem?_setIfInBounds, if_neg (Ne.symm hn)]
end Go.Shal
end
section
set_option linter.unusedVariables false
namespace Go.Shal
open Go
/-- Block b goes through map r, of these entries; it has come to the stamps seen. -/
def IterAt (b r : Nat) (es : Array MapEntry) (clock : Nat) (seen : Array Nat) (h : Heap) : Prop := h[b]? = some (.mapIter (some r) clock seen clock) ∧ h[r]? = some (.map es clock)
theorem range_of {r : Nat} {ps : List (Bytes × Value)} {K : Addr → PP} {h : Heap} (m : MapIs r ps h)
    (hk : ∀ es clock h', Rep es clock ps → Ext h h' → h'.size = h.size + 1 → IterAt h.size r es clock #[] h' → K ⟨h.size, 0, none⟩ h') : rangeMP (some r) K h := by
  obtain ⟨es, c, hb, R⟩ := m
  exact .inr ⟨r, es, c, rfl, hb, hk es c _ R (Ext.push _ _) (by simp) ⟨getElem?_push_new _ _, getElem?_push_lt hb⟩⟩
theorem next_of {b r : Nat} {es : Array MapEntry} {clock : Nat} {ps : List (Bytes × Value)} {seen : Array Nat} {F : PP} {K : MapEntry → PP} {h : Heap} (R : Rep es clock ps) (i : IterAt b r es clock seen h)
    (hF : leftE es seen = #[] → F h) (hk : ∀ e ∈ (leftE es seen).toList, ∀ h', Only b h h' → IterAt b r es clock (seen.push e.born) h' → K e h') : nextMP ⟨b, 0, none⟩ F K h := by
  refine ⟨rfl, .inr ⟨r, clock, seen, clock, es, i.1, i.2, R.born, ?_, hF, fun e he => hk e he _ ⟨by simp, fun n hn => ?_⟩ ⟨?_, ?_⟩⟩⟩
  · rcases Nat.eq_zero_or_pos es.size with h0 | h0
    · exact .inr (.inl (by simpa using h0))
    · exact .inr (.inr ⟨es[0], by simp, R.born _ (by simp)⟩)
  · rw [Array.getElem?_setIfInBounds, if_neg (Ne.symm hn)]
  · rw [Array.getElem?_setIfInBounds, if_pos rfl, if_pos (lt_of_some i.1)]
  · have hne : b ≠ r := by rintro rfl; have := i.1; rw [i.2] at this; cases this
    rw [Array.getElem?_setIfInBounds, if_neg hne]
    exact i.2
theorem find_stamp : ∀ (l : List MapEntry) (e : MapEntry), (l.map (·.born)).Nodup → e ∈ l → l.find? (fun x => x.born == e.born) = some e
  | [], _, _, h => by simp at h
  | x :: l, e, hn, h => by
    rw [List.map_cons, List.nodup_cons] at hn
    rcases List.mem_cons.1 h with rfl | h
    · simp
    · rw [List.find?_cons_of_neg]
      · exact find_stamp l e hn.2 h
      · intro hh
        apply hn.1
        have : x.born = e.born := by simpa using hh
        rw [this]
        exact List.mem_map_of_mem h
theorem entry_of {b r : Nat} {es : Array MapEntry} {clock : Nat} {ps : List (Bytes × Value)} {seen : Array Nat} {e : MapEntry} {p : Option Addr} {K : Bytes → Option Addr → PP} {h : Heap} (R : Rep es clock ps)
    (i : IterAt b r es clock (seen.push e.born) h) (he : e ∈ es.toList) (hv : e.val = .pointer p) (hk : K (keyB e) p h) : entryP ⟨b, 0, none⟩ K h := by
  refine ⟨rfl, r, clock, _, clock, es, e.born, ⟨i.1, i.2⟩, by simp, e, ?_, keyB e, p, R.keys e he, hv, hk⟩
  rw [← Array.find?_toList]
  exact find_stamp _ _ R.stamps he
theorem leftE_nil (es : Array MapEntry) : leftE es #[] = es := by
  unfold leftE
  simp
theorem leftE_mem {es : Array MapEntry} {seen : Array Nat} {e : MapEntry} (h : e ∈ (leftE es seen).toList) : e ∈ es.toList := by
  unfold leftE at h
  simp at h
  simpa using h.1
theorem left_sum {es : Array MapEntry} {seen : Array Nat} {e : MapEntry} (f : MapEntry → Nat) (hn : (es.toList.map (·.born)).Nodup) (h : e ∈ (leftE es seen).toList) :
    ((leftE es seen).toList.map f).sum = f e + ((leftE es (seen.push e.born)).toList.map f).sum ∧ (leftE es (seen.push e.born)).size < (leftE es seen).size := by
  have e1 : (leftE es seen).toList = es.toList.filter fun x => !seen.contains x.born := by simp [leftE]
  have e2 : (leftE es (seen.push e.born)).toList = (leftE es seen).toList.filter fun x => !(x.born == e.born) := by
    rw [e1, List.filter_filter]
    simp only [leftE, Array.toList_filter]
    apply List.filter_congr
    intro x hx
    rw [Bool.eq_iff_iff]
    simp
    constructor
    · intro hh; exact ⟨hh.2, hh.1⟩
    · intro hh; exact ⟨hh.2, hh.1⟩
  have hnl : ((leftE es seen).toList.map (·.born)).Nodup := by
    rw [e1]
    exact hn.sublist ((List.filter_sublist).map _)
  have key : ∀ l : List MapEntry, (l.map (·.born)).Nodup → e ∈ l → (l.map f).sum = f e + ((l.filter fun x => !(x.born == e.born)).map f).sum ∧ (l.filter fun x => !(x.born == e.born)).length < l.length := by
    intro l
    induction l with
    | nil => intro _ h; simp at h
    | cons x l ih =>
      intro hn h
      rw [List.map_cons, List.nodup_cons] at hn
      rcases List.mem_cons.1 h with rfl | h
      · have : l.filter (fun x => !(x.born == e.born)) = l := by
          rw [List.filter_eq_self]
          intro y hy
          simp only [Bool.not_eq_true', beq_eq_false_iff_ne]
          intro hh
          apply hn.1
          rw [← hh]
          exact List.mem_map_of_mem hy
        rw [List.filter_cons_of_neg (by simp), this]
        simp
      · obtain ⟨a1, a2⟩ := ih hn.2 h
        have hne : x.born ≠ e.born := by
          intro hh
          apply hn.1
          rw [hh]
          exact List.mem_map_of_mem h
        rw [List.filter_cons_of_pos (by simpa using hne), List.map_cons, List.sum_cons, a1, List.map_cons, List.sum_cons, List.length_cons, List.length_cons]
        omega
  have := key _ hnl h
  rw [← e2] at this
  refine ⟨this.1, ?_⟩
  have h2 := this.2
  simpa using h2
end Go.Shal
end

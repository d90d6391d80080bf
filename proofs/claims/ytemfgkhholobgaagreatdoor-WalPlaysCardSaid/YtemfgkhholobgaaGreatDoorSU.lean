/- slices.Sort at uint64: rows of numbers that are turned in place; its lesser parts. slices.Sort at uint64: the heap; a pivot. slices.Sort at uint64: the partitions; a sort that gives up. slices.Sort at uint64: a sort that gives up; patterns that are broken. slices.Sort at uint64, whole. -/
import Derived.Test.YtemfgkhholobgaaGreatDoorSI
import Derived.Test.YtemfgkhholobgaaGreatDoorWGA
import Derived.Test.YtemfgkhholobgaaGreatDoorWGB
import Derived.Test.YtemfgkhholobgaaGreatDoorWGD
import Derived.Sort.AssemblyPlain
import Derived.Test.YtemfgkhholobgaaGreatDoorShelf
import Derived.Test.YtemfgkhholobgaaGreatDoorMB
section
set_option maxRecDepth 100000
set_option linter.unusedVariables false
namespace Go.Proofs.W
open Go Go.Shal Go.Proofs
/-- A row of uint64s. -/
abbrev enc64 (n : Nat) : List Value := [Value.int .u64 (n : Int)]
abbrev OwnA (B : Nat) (h : Heap) (s : Sl) (d : Array Nat) : Prop := Own B 30 1 enc64 h s d.toList
def ltN (a b : Nat) : Bool := decide (a < b)
theorem swoN : Sort.SWO ltN := ⟨fun x => by simp [ltN], fun x y z h1 h2 => by simp [ltN] at h1 h2 ⊢; omega, fun x y z h1 h2 => by simp [ltN] at h1 h2 ⊢; omega⟩
theorem less_nat {a b : Nat} {h : Heap} {Q : Bool → PP} (hQ : Q (ltN a b) h) : cmp_Less_uint64.C (a : Int) (b : Int) Q h := by
  apply cmp_Less_uint64.ok
  unfold cmp_Less_uint64.F
  apply cmp_isNaN_uint64.ok
  unfold cmp_isNaN_uint64.F
  dsimp only
  rw [ifB_of_false (by simp)]
  have e : decide ((a : Int) < (b : Int)) = ltN a b := by unfold ltN; rw [decide_eq_decide]; omega
  rw [← e] at hQ
  exact hQ
theorem but_trans {s : Sl} {h h1 h2 : Heap} (a : But s h h1) (b : But s h1 h2) : But s h h2 := ⟨Nat.le_trans a.1 b.1, fun n o hn hne => b.2 n o (a.2 n o hn hne) hne⟩
theorem only_but {s : Sl} {b : Nat} {h h' : Heap} (o : Only b h h') (hb : s.p.map (·.block) = some b) : But s h h' := ⟨Nat.le_of_eq o.1.symm, fun n x hn hne => by rw [o.2 n (by rintro rfl; exact hne hb)]; exact hn⟩
theorem ext_but {s : Sl} {h h' : Heap} (u : Ext h h') : But s h h' := ⟨u.size, fun n x hn _ => u.at' hn⟩
section
variable {B : Nat} {h : Heap} {s : Sl} {d : Array Nat}
theorem getA {n : Nat} (hn : n < d.size) : d.toList[n]? = some d[n]! := by
  rw [getElem!_pos d n hn]
  simp [hn]
theorem rdA {i : Int} {n : Nat} {K : Int → PP} (ho : OwnA B h s d) (hi : i = (n : Int)) (hn : n < d.size) (hk : K (d[n]! : Int) h) : idxP 1 s.p s.len i (fun a => ldG (fun h' => Ext h h') (.int .u64) a K) h :=
  Sees.idx (enc := enc64) (fun _ => rfl) (Own.sees (enc := enc64) (k := 1) (fun _ => rfl) ho) hi (getA hn) fun a ha => ldG_ext (s := .int .u64) (x := (d[n]! : Int)) (ha 0 _ rfl) hk
theorem stA {i : Int} {n v : Nat} {K : PP} (ho : OwnA B h s d) (hi : i = (n : Int)) (hn : n < d.size) (hk : ∀ b h', s.p.map (·.block) = some b → B ≤ b → OwnA B h' s (d.setIfInBounds n v) → Only b h h' → K h') : idxP 1 s.p s.len i (fun a => stP (.int .u64) a (v : Int) K) h :=
  own_idx_st (enc := enc64) (sc := .int .u64) (j := 0) (x' := v) (fun _ => rfl) ho hi (getA hn) (by decide) (by decide) rfl fun b h' hb hB o' e' => hk b h' hb hB (by
    have : (d.setIfInBounds n v).toList = d.toList.set n v := by simp
    unfold OwnA
    rw [this]
    exact o') e'
/-- 'data[i], data[j] = data[j], data[i]'. -/
theorem swapA {i j : Int} {n m : Nat} {K : PP} (ho : OwnA B h s d) (hi : i = (n : Int)) (hj : j = (m : Int)) (hn : n < d.size) (hm : m < d.size)
    (hk : ∀ h', OwnA B h' s (Sort.swp d n m) → But s h h' → K h') :
    drawT (fun S => idxP 1 s.p s.len j fun a => ldG S (.int .u64) a fun x => idxP 1 s.p s.len i fun a' => ldG S (.int .u64) a' fun y =>
      idxP 1 s.p s.len i fun a'' => stP (.int .u64) a'' x (idxP 1 s.p s.len j fun a3 => stP (.int .u64) a3 y K)) h := by
  refine draw_ext ?_
  refine rdA ho hj hm ?_
  refine rdA ho hi hn ?_
  refine stA ho hi hn fun b h1 hb hB o1 e1 => ?_
  refine stA o1 hj (by simpa using hm) fun b' h2 hb' _ o2 e2 => ?_
  exact hk h2 o2 (but_trans (only_but e1 hb) (only_but e2 hb'))
end
theorem swp_size' (d : Array Nat) (i j : Nat) : (Sort.swp d i j).size = d.size := Sort.size_swp d i j
theorem ins_spec {B a b : Nat} {h : Heap} {s : Sl} {d : Array Nat} {Q : PP} (ho : OwnA B h s d) (hab : a ≤ b) (hb : b ≤ d.size) (hsz : d.size < 4611686018427387904)
    (hQ : ∀ h', OwnA B h' s (Sort.insertionSort ltN d a b) → But s h h' → Q h') : slices_insertionSortOrdered_uint64.C s (a : Int) (b : Int) Q h := by
  apply slices_insertionSortOrdered_uint64.ok
  unfold slices_insertionSortOrdered_uint64.F
  rw [wi (by omega) (by omega)]
  refine ⟨fun i h' => ∃ (k : Nat) (e : Array Nat), i = (k : Int) ∧ a < k ∧ k ≤ max b (a + 1) ∧ OwnA B h' s e ∧ e.size = d.size ∧ Sort.insOuter ltN a b k e = Sort.insertionSort ltN d a b ∧ But s h h', fun i _ => b - i.toNat, ⟨a + 1, d, rfl, by omega, by omega, ho, rfl, rfl, But.refl _ _⟩, ?_⟩
  rintro ⟨i, _⟩ h1 ⟨k, e, hi, hk, hkb, o1, z1, e1, b1⟩
  dsimp only at hi o1 b1
  subst hi
  dsimp only [unc]
  refine ifB_of (fun hc => ?_) (fun hc => ?_)
  · have hk1 : k < b := by have := of_decide_eq_true hc; omega
    refine ⟨fun j h' => ∃ (m : Nat) (g : Array Nat), j = (m : Int) ∧ m ≤ k ∧ OwnA B h' s g ∧ g.size = d.size ∧ Sort.insInner ltN a m g = Sort.insInner ltN a k e ∧ But s h h', fun j _ => j.toNat, ⟨k, e, rfl, Nat.le_refl _, o1, z1, rfl, b1⟩, ?_⟩
    rintro ⟨j, _⟩ h2 ⟨m, g, hj, hm, o2, z2, e2, b2⟩
    dsimp only at hj o2 b2
    subst hj
    dsimp only [unc]
    refine join_b (decide (a < m) && ltN g[m]! g[m - 1]!) (fun h' => h' = h2) ?_ ?_
    · refine draw_ext ?_
      refine ifB_of (fun hc => ?_) (fun hc => ?_)
      · have hm1 : a < m := by have := of_decide_eq_true hc; omega
        rw [wi (by omega) (by omega)]
        refine rdA o2 rfl (by omega) ?_
        refine rdA (n := m - 1) o2 (by omega) (by omega) ?_
        refine less_nat ⟨?_, rfl⟩
        rw [decide_eq_true hm1, Bool.true_and]
      · have hm1 : ¬ a < m := by have := of_decide_eq_false hc; omega
        exact ⟨by rw [decide_eq_false hm1, Bool.false_and], rfl⟩
    · rintro h2 rfl
      refine ifB_of (fun hc => ?_) (fun hc => ?_)
      · rw [Bool.and_eq_true, decide_eq_true_eq] at hc
        rw [wi (by omega) (by omega)]
        refine swapA (n := m) (m := m - 1) o2 rfl (by omega) (by omega) (by omega) fun h3 o3 b3 => ?_
        refine ⟨⟨m - 1, Sort.swp g m (m - 1), (show (m : Int) - 1 = ((m - 1 : Nat) : Int) by omega), by omega, o3, by rw [swp_size']; exact z2, ?_, but_trans b2 b3⟩, by omega⟩
        rw [← e2]
        obtain ⟨m', rfl⟩ : ∃ m', m = m' + 1 := ⟨m - 1, by omega⟩
        rw [Nat.add_sub_cancel] at hc ⊢
        conv => rhs; unfold Sort.insInner
        rw [if_pos (by rw [Bool.and_eq_true, decide_eq_true_eq]; exact hc)]
      · rw [wi (by omega) (by omega)]
        have hg : Sort.insInner ltN a m g = g := by
          cases m with
          | zero => rfl
          | succ m' =>
            rw [Nat.add_sub_cancel] at hc
            unfold Sort.insInner
            rw [if_neg (by rw [Bool.not_eq_true]; exact hc)]
        refine ⟨⟨k + 1, g, rfl, by omega, by omega, o2, z2, ?_, b2⟩, by omega⟩
        rw [← e1]
        conv => rhs; unfold Sort.insOuter
        rw [if_pos hk1, ← e2, hg]
  · have hk1 : ¬ k < b := by have := of_decide_eq_false hc; omega
    have : e = Sort.insertionSort ltN d a b := by
      rw [← e1]
      unfold Sort.insOuter
      rw [if_neg hk1]
    rw [this] at o1
    exact hQ h1 o1 b1
end Go.Proofs.W
end
section
set_option maxRecDepth 100000
set_option linter.unusedVariables false
namespace Go.Proofs.W
open Go Go.Shal Go.Proofs
theorem sift_spec {B lo hi F : Nat} {h : Heap} {s : Sl} {d : Array Nat} {Q : PP} (ho : OwnA B h s d) (hlo : lo ≤ hi) (hb : F + hi ≤ d.size) (hsz : d.size < 2305843009213693952)
    (hQ : ∀ h', OwnA B h' s (Sort.siftDown ltN hi F lo d) → (Sort.siftDown ltN hi F lo d).size = d.size → But s h h' → Q h') : slices_siftDownOrdered_uint64.C s (lo : Int) (hi : Int) (F : Int) Q h := by
  apply slices_siftDownOrdered_uint64.ok
  unfold slices_siftDownOrdered_uint64.F
  refine ⟨fun i h' => ∃ (r : Nat) (e : Array Nat), i = (r : Int) ∧ r ≤ hi ∧ OwnA B h' s e ∧ e.size = d.size ∧ Sort.siftDown ltN hi F r e = Sort.siftDown ltN hi F lo d ∧ But s h h', fun i _ => hi - i.toNat, ⟨lo, d, rfl, hlo, ho, rfl, rfl, But.refl _ _⟩, ?_⟩
  rintro ⟨i, _⟩ h1 ⟨r, e, hi', hr, o1, z1, e1, b1⟩
  dsimp only at hi' o1 b1
  subst hi'
  dsimp only [unc]
  have w1 : IntKind.wrap .i64 ((IntKind.wrap .i64 ((2 : Int) * (r : Int))) + (1 : Int)) = ((2 * r + 1 : Nat) : Int) := by rw [wi (x := (2 : Int) * (r : Int)) (by omega) (by omega), wi (by omega) (by omega)]; omega
  rw [w1]
  have w2 : IntKind.wrap .i64 (((2 * r + 1 : Nat) : Int) + (1 : Int)) = ((2 * r + 2 : Nat) : Int) := by rw [wi (by omega) (by omega)]; omega
  rw [w2]
  have fin : Sort.siftDown ltN hi F r e = e → Q h1 := fun hh => by
    rw [← e1, hh] at hQ
    exact hQ h1 o1 z1 b1
  refine ifB_of (fun hc => ?_) (fun hc => ?_)
  · have hge : 2 * r + 1 ≥ hi := by have := of_decide_eq_true hc; omega
    refine fin ?_
    unfold Sort.siftDown
    rw [dif_pos hge]
  · have hlt : ¬ 2 * r + 1 ≥ hi := by have := of_decide_eq_false hc; omega
    have w3 : IntKind.wrap .i64 ((F : Int) + ((2 * r + 1 : Nat) : Int)) = ((F + (2 * r + 1) : Nat) : Int) := by rw [wi (by omega) (by omega)]; omega
    have w4 : IntKind.wrap .i64 (((F + (2 * r + 1) : Nat) : Int) + (1 : Int)) = ((F + (2 * r + 1) + 1 : Nat) : Int) := by rw [wi (by omega) (by omega)]; omega
    have w5 : IntKind.wrap .i64 ((F : Int) + (r : Int)) = ((F + r : Nat) : Int) := by rw [wi (by omega) (by omega)]; omega
    refine join_1 (s := .int .i64) (fun x h' => x = ((if (decide (2 * r + 1 + 1 < hi) && ltN e[F + (2 * r + 1)]! e[F + (2 * r + 1) + 1]!) = true then 2 * r + 2 else 2 * r + 1 : Nat) : Int) ∧ h' = h1) ?_ ?_
    · refine join_b (decide (2 * r + 1 + 1 < hi) && ltN e[F + (2 * r + 1)]! e[F + (2 * r + 1) + 1]!) (fun h' => h' = h1) ?_ ?_
      · refine draw_ext ?_
        refine ifB_of (fun hc => ?_) (fun hc => ?_)
        · have h2 : 2 * r + 1 + 1 < hi := by have := of_decide_eq_true hc; omega
          rw [w3, w4]
          refine rdA o1 rfl (by omega) ?_
          refine rdA o1 rfl (by omega) ?_
          refine less_nat ⟨?_, rfl⟩
          rw [decide_eq_true h2, Bool.true_and]
        · have h2 : ¬ 2 * r + 1 + 1 < hi := by have := of_decide_eq_false hc; omega
          exact ⟨by rw [decide_eq_false h2, Bool.false_and], rfl⟩
      · rintro h1 rfl
        refine ifB_of (fun hc => ?_) (fun hc => ?_)
        · exact ⟨by rw [if_pos hc], rfl⟩
        · exact ⟨by rw [if_neg (by rw [hc]; decide)], rfl⟩
    · rintro x h1 ⟨rfl, rfl⟩
      by_cases hcd : (decide (2 * r + 1 + 1 < hi) && ltN e[F + (2 * r + 1)]! e[F + (2 * r + 1) + 1]!) = true
      · rw [if_pos hcd]
        have h2 : 2 * r + 2 < hi := by rw [Bool.and_eq_true, decide_eq_true_eq] at hcd; omega
        have w6 : IntKind.wrap .i64 ((F : Int) + ((2 * r + 2 : Nat) : Int)) = ((F + (2 * r + 2) : Nat) : Int) := by rw [wi (by omega) (by omega)]; omega
        rw [w5, w6]
        refine draw_ext ?_
        refine rdA o1 rfl (by omega) ?_
        refine rdA o1 rfl (by omega) ?_
        refine less_nat ?_
        refine ifB_of (fun hb' => ?_) (fun hb' => ?_)
        · refine fin ?_
          unfold Sort.siftDown
          rw [dif_neg hlt, if_pos hcd, if_pos hb']
        · refine swapA (n := F + r) (m := F + (2 * r + 2)) o1 rfl rfl (by omega) (by omega) fun h2' o2 b2 => ?_
          refine ⟨⟨2 * r + 2, _, rfl, by omega, o2, by rw [swp_size']; exact z1, ?_, but_trans b1 b2⟩, (show hi - ((2 * r + 2 : Nat) : Int).toNat < hi - ((r : Nat) : Int).toNat by omega)⟩
          rw [← e1]
          conv => rhs; unfold Sort.siftDown
          rw [dif_neg hlt, if_pos hcd, if_neg (by rw [hb']; decide), dif_pos h2]
      · rw [if_neg hcd, w5, w3]
        refine draw_ext ?_
        refine rdA o1 rfl (by omega) ?_
        refine rdA o1 rfl (by omega) ?_
        refine less_nat ?_
        refine ifB_of (fun hb' => ?_) (fun hb' => ?_)
        · refine fin ?_
          unfold Sort.siftDown
          rw [dif_neg hlt, if_neg hcd, if_pos hb']
        · refine swapA (n := F + r) (m := F + (2 * r + 1)) o1 rfl rfl (by omega) (by omega) fun h2' o2 b2 => ?_
          refine ⟨⟨2 * r + 1, _, rfl, by omega, o2, by rw [swp_size']; exact z1, ?_, but_trans b1 b2⟩, (show hi - ((2 * r + 1 : Nat) : Int).toNat < hi - ((r : Nat) : Int).toNat by omega)⟩
          rw [← e1]
          conv => rhs; unfold Sort.siftDown
          rw [dif_neg hlt, if_neg hcd, if_neg (by rw [hb']; decide)]
theorem heap_spec {B a b : Nat} {h : Heap} {s : Sl} {d : Array Nat} {Q : PP} (ho : OwnA B h s d) (hab : a ≤ b) (hb : b ≤ d.size) (hsz : d.size < 2305843009213693952)
    (hQ : ∀ h', OwnA B h' s (Sort.heapSort ltN d a b) → But s h h' → Q h') : slices_heapSortOrdered_uint64.C s (a : Int) (b : Int) Q h := by
  apply slices_heapSortOrdered_uint64.ok
  unfold slices_heapSortOrdered_uint64.F
  refine ⟨by decide, ?_⟩
  have w1 : IntKind.wrap .i64 ((b : Int) - (a : Int)) = ((b - a : Nat) : Int) := by rw [wi (by omega) (by omega)]; omega
  have w2 : IntKind.wrap .i64 (((b - a : Nat) : Int) - (1 : Int)) = ((b - a : Nat) : Int) - 1 := by rw [wi (by omega) (by omega)]
  have w3 : IntKind.wrap .i64 (Int.tdiv (((b - a : Nat) : Int) - 1) (2 : Int)) = (((b - a - 1) / 2 + 1 : Nat) : Int) - 1 := by
    by_cases h0 : b - a = 0
    · rw [h0]; decide
    · rw [show ((b - a : Nat) : Int) - 1 = ((b - a - 1 : Nat) : Int) by omega, show (2 : Int) = ((2 : Nat) : Int) from rfl, tdiv_nat, wi (by omega) (by omega)]
      omega
  rw [w1, w2, w3]
  refine ⟨fun i h' => ∃ (k : Nat) (e : Array Nat), i = (k : Int) - 1 ∧ k ≤ (b - a - 1) / 2 + 1 ∧ OwnA B h' s e ∧ e.size = d.size ∧ Sort.heapBuild ltN (b - a) a k e = Sort.heapBuild ltN (b - a) a ((b - a - 1) / 2 + 1) d ∧ But s h h', fun i _ => (i + 1).toNat, ⟨_, d, rfl, Nat.le_refl _, ho, rfl, rfl, But.refl _ _⟩, ?_⟩
  rintro ⟨i, _⟩ h1 ⟨k, e, hi', hk, o1, z1, e1, b1⟩
  dsimp only at hi' o1 b1
  subst hi'
  dsimp only [unc]
  refine ifB_of (fun hc => ?_) (fun hc => ?_)
  · have hk1 : 1 ≤ k := by have := of_decide_eq_true hc; omega
    obtain ⟨k', rfl⟩ : ∃ k', k = k' + 1 := ⟨k - 1, by omega⟩
    rw [show ((k' + 1 : Nat) : Int) - 1 = (k' : Int) by omega, wi (x := (k' : Int) - 1) (by omega) (by omega)]
    refine sift_spec o1 (by omega) (by omega) (by omega) fun h2 o2 z2 b2 => ?_
    refine ⟨⟨k', _, rfl, by omega, o2, by rw [z2, z1], ?_, but_trans b1 b2⟩, (show ((k' : Int) - 1 + 1).toNat < (((k' : Nat) : Int) + 1).toNat by omega)⟩
    rw [← e1]
    rfl
  · have hk0 : k = 0 := by have := of_decide_eq_false hc; omega
    subst hk0
    have he : e = Sort.heapBuild ltN (b - a) a ((b - a - 1) / 2 + 1) d := e1
    refine ⟨fun i h' => ∃ (k : Nat) (g : Array Nat), i = (k : Int) - 1 ∧ k ≤ b - a ∧ OwnA B h' s g ∧ g.size = d.size ∧ Sort.heapPop ltN a k g = Sort.heapPop ltN a (b - a) e ∧ But s h h', fun i _ => (i + 1).toNat, ⟨_, e, rfl, Nat.le_refl _, o1, z1, rfl, b1⟩, ?_⟩
    rintro ⟨i, _⟩ h2 ⟨k, g, hi', hk, o2, z2, e2, b2⟩
    dsimp only at hi' o2 b2
    subst hi'
    dsimp only [unc]
    refine ifB_of (fun hc => ?_) (fun hc => ?_)
    · have hk1 : 1 ≤ k := by have := of_decide_eq_true hc; omega
      obtain ⟨k', rfl⟩ : ∃ k', k = k' + 1 := ⟨k - 1, by omega⟩
      have w5 : IntKind.wrap .i64 ((a : Int) + (k' : Int)) = ((a + k' : Nat) : Int) := by rw [wi (by omega) (by omega)]; omega
      rw [show ((k' + 1 : Nat) : Int) - 1 = (k' : Int) by omega, wi (x := (k' : Int) - 1) (by omega) (by omega), w5]
      refine swapA (n := a) (m := a + k') o2 rfl rfl (by omega) (by omega) fun h3 o3 b3 => ?_
      have hz3 : (Sort.swp g a (a + k')).size = d.size := by rw [swp_size']; exact z2
      refine sift_spec (lo := 0) (hi := k') (F := a) o3 (by omega) (by omega) (by omega) fun h4 o4 z4 b4 => ?_
      refine ⟨⟨k', _, rfl, by omega, o4, by rw [z4, hz3], ?_, but_trans b2 (but_trans b3 b4)⟩, (show ((k' : Int) - 1 + 1).toNat < (((k' : Nat) : Int) + 1).toNat by omega)⟩
      rw [← e2]
      rfl
    · have hk0 : k = 0 := by have := of_decide_eq_false hc; omega
      subst hk0
      have hg : g = Sort.heapSort ltN d a b := by
        unfold Sort.heapSort
        rw [← he, ← e2]
        rfl
      rw [hg] at o2
      exact hQ h2 o2 b2
theorem rev_spec {B a b : Nat} {h : Heap} {s : Sl} {d : Array Nat} {Q : PP} (ho : OwnA B h s d) (hab : a < b) (hb : b ≤ d.size) (hsz : d.size < 2305843009213693952)
    (hQ : ∀ h', OwnA B h' s (Sort.reverseRange d a b) → But s h h' → Q h') : slices_reverseRangeOrdered_uint64.C s (a : Int) (b : Int) Q h := by
  apply slices_reverseRangeOrdered_uint64.ok
  unfold slices_reverseRangeOrdered_uint64.F
  rw [wi (x := (b : Int) - 1) (by omega) (by omega)]
  refine ⟨fun i j h' => ∃ (x y : Nat) (e : Array Nat), i = (x : Int) ∧ j = (y : Int) ∧ y < b ∧ OwnA B h' s e ∧ e.size = d.size ∧ Sort.reverseLoop x y e = Sort.reverseRange d a b ∧ But s h h', fun i j _ => (j - i).toNat, ⟨a, b - 1, d, rfl, (show (b : Int) - 1 = ((b - 1 : Nat) : Int) by omega), by omega, ho, rfl, rfl, But.refl _ _⟩, ?_⟩
  rintro ⟨i, j, _⟩ h1 ⟨x, y, e, hi', hj', hy, o1, z1, e1, b1⟩
  dsimp only at hi' hj' o1 b1
  subst hi' hj'
  dsimp only [unc]
  refine ifB_of (fun hc => ?_) (fun hc => ?_)
  · have hlt : x < y := by have := of_decide_eq_true hc; omega
    rw [wi (x := (x : Int) + 1) (by omega) (by omega), wi (x := (y : Int) - 1) (by omega) (by omega)]
    refine swapA (n := x) (m := y) o1 rfl rfl (by omega) (by omega) fun h2 o2 b2 => ?_
    refine ⟨⟨x + 1, y - 1, _, rfl, (show (y : Int) - 1 = ((y - 1 : Nat) : Int) by omega), by omega, o2, by rw [swp_size']; exact z1, ?_, but_trans b1 b2⟩, (show ((y : Int) - 1 - ((x : Int) + 1)).toNat < ((y : Int) - (x : Int)).toNat by omega)⟩
    rw [← e1]
    conv => rhs; unfold Sort.reverseLoop
    rw [if_pos hlt]
  · have hlt : ¬ x < y := by have := of_decide_eq_false hc; omega
    have : e = Sort.reverseRange d a b := by
      rw [← e1]
      unfold Sort.reverseLoop
      rw [if_neg hlt]
    rw [this] at o1
    exact hQ h1 o1 b1
/-! ### A pivot -/
section
variable {B c : Nat} {h : Heap} {s : Sl} {d : Array Nat} {k : Int}
theorem OwnA.cnt {h' : Heap} (ho : OwnA B h s d) (l : Shal.Loc c 3 [.int .i64 k] h) (o : Only c h h') : OwnA B h' s d := Own.only ho o (Own.rowne ho l (by decide))
theorem order2_spec {x y : Nat} {Q : Int → Int → PP} (ho : OwnA B h s d) (l : Shal.Loc c 3 [.int .i64 k] h) (hx : x < d.size) (hy : y < d.size)
    (hQ : ∀ (k' : Int) h' (u v : Nat), (u = x ∧ v = y) ∨ (u = y ∧ v = x) → Shal.Loc c 3 [.int .i64 k'] h' → Only c h h' → Q (u : Int) (v : Int) h') : slices_order2Ordered_uint64.C s (x : Int) (y : Int) (some ⟨c, 0, none⟩) Q h := by
  apply slices_order2Ordered_uint64.ok
  unfold slices_order2Ordered_uint64.F
  refine draw_ext ?_
  refine rdA ho rfl hy ?_
  refine rdA ho rfl hx ?_
  refine less_nat ?_
  refine ifB_of (fun hb => ?_) (fun hb => ?_)
  · rw [nilP_some]
    refine ld_of (s := .int .i64) (x := k) l.cell0 ?_
    rw [nilP_some]
    refine st_loc0 (s := .int .i64) l (by decide) fun h2 l2 o2 => ?_
    exact hQ _ h2 y x (.inr ⟨rfl, rfl⟩) l2 o2
  · exact hQ k h x y (.inl ⟨rfl, rfl⟩) l (Only.refl _ _)
theorem median_spec {x y z : Nat} {Q : Int → PP} (ho : OwnA B h s d) (l : Shal.Loc c 3 [.int .i64 k] h) (hx : x < d.size) (hy : y < d.size) (hz : z < d.size)
    (hQ : ∀ (k' : Int) h' (u : Nat), u = x ∨ u = y ∨ u = z → Shal.Loc c 3 [.int .i64 k'] h' → Only c h h' → Q (u : Int) h') : slices_medianOrdered_uint64.C s (x : Int) (y : Int) (z : Int) (some ⟨c, 0, none⟩) Q h := by
  apply slices_medianOrdered_uint64.ok
  unfold slices_medianOrdered_uint64.F
  refine order2_spec ho l hx hy fun k1 h1 u1 v1 p1 l1 o1 => ?_
  have ho1 := ho.cnt l o1
  have hu1 : u1 < d.size ∧ v1 < d.size := by rcases p1 with ⟨rfl, rfl⟩ | ⟨rfl, rfl⟩ <;> exact ⟨by assumption, by assumption⟩
  refine order2_spec ho1 l1 hu1.2 hz fun k2 h2 u2 v2 p2 l2 o2 => ?_
  have ho2 := ho1.cnt l1 o2
  have hu2 : u2 < d.size := by rcases p2 with ⟨rfl, rfl⟩ | ⟨rfl, rfl⟩ <;> first | exact hu1.2 | exact hz
  refine order2_spec ho2 l2 hu1.1 hu2 fun k3 h3 u3 v3 p3 l3 o3 => ?_
  refine hQ k3 h3 v3 ?_ l3 ((o1.trans o2).trans o3)
  rcases p1 with ⟨rfl, rfl⟩ | ⟨rfl, rfl⟩ <;> rcases p2 with ⟨rfl, rfl⟩ | ⟨rfl, rfl⟩ <;> rcases p3 with ⟨rfl, rfl⟩ | ⟨rfl, rfl⟩ <;> simp
theorem medAdj_spec {x : Nat} {Q : Int → PP} (ho : OwnA B h s d) (l : Shal.Loc c 3 [.int .i64 k] h) (h1 : 1 ≤ x) (hx : x + 1 < d.size) (hsz : d.size < 2305843009213693952)
    (hQ : ∀ (k' : Int) h' (u : Nat), x - 1 ≤ u → u ≤ x + 1 → Shal.Loc c 3 [.int .i64 k'] h' → Only c h h' → Q (u : Int) h') : slices_medianAdjacentOrdered_uint64.C s (x : Int) (some ⟨c, 0, none⟩) Q h := by
  apply slices_medianAdjacentOrdered_uint64.ok
  unfold slices_medianAdjacentOrdered_uint64.F
  rw [wi (x := (x : Int) - 1) (by omega) (by omega), wi (x := (x : Int) + 1) (by omega) (by omega), show (x : Int) - 1 = ((x - 1 : Nat) : Int) by omega, show (x : Int) + 1 = ((x + 1 : Nat) : Int) by omega]
  refine median_spec ho l (by omega) (by omega) hx fun k' h' u hu l' o' => hQ k' h' u ?_ ?_ l' o'
  · rcases hu with rfl | rfl | rfl <;> omega
  · rcases hu with rfl | rfl | rfl <;> omega
end
theorem pivot_spec {B a b : Nat} {h : Heap} {s : Sl} {d : Array Nat} {Q : Int → Int → PP} (ho : OwnA B h s d) (hab : a + 8 ≤ b) (hb : b ≤ d.size) (hsz : d.size < 2305843009213693952)
    (hQ : ∀ (u : Nat) (hint : Int) h', a ≤ u → u < b → Ext h h' → Q (u : Int) hint h') : slices_choosePivotOrdered_uint64.C s (a : Int) (b : Int) Q h := by
  apply slices_choosePivotOrdered_uint64.ok
  unfold slices_choosePivotOrdered_uint64.F
  refine newP_loc fun h1 u1 z1 l1 => ⟨by decide, ⟨by decide, ⟨by decide, ?_⟩⟩⟩
  have ho1 := Own.ext ho u1
  have w1 : IntKind.wrap .i64 ((b : Int) - (a : Int)) = ((b - a : Nat) : Int) := by rw [wi (by omega) (by omega)]; omega
  have w2 : IntKind.wrap .i64 (Int.tdiv ((b - a : Nat) : Int) (4 : Int)) = (((b - a) / 4 : Nat) : Int) := by rw [show (4 : Int) = ((4 : Nat) : Int) from rfl, tdiv_nat, wi (by omega) (by omega)]
  have w3 : IntKind.wrap .i64 ((a : Int) + IntKind.wrap .i64 ((((b - a) / 4 : Nat) : Int) * (1 : Int))) = ((a + (b - a) / 4 : Nat) : Int) := by rw [wi (x := (((b - a) / 4 : Nat) : Int) * 1) (by omega) (by omega), wi (by omega) (by omega)]; omega
  have w4 : IntKind.wrap .i64 ((a : Int) + IntKind.wrap .i64 ((((b - a) / 4 : Nat) : Int) * (2 : Int))) = ((a + (b - a) / 4 * 2 : Nat) : Int) := by rw [wi (x := (((b - a) / 4 : Nat) : Int) * 2) (by omega) (by omega), wi (by omega) (by omega)]; omega
  have w5 : IntKind.wrap .i64 ((a : Int) + IntKind.wrap .i64 ((((b - a) / 4 : Nat) : Int) * (3 : Int))) = ((a + (b - a) / 4 * 3 : Nat) : Int) := by rw [wi (x := (((b - a) / 4 : Nat) : Int) * 3) (by omega) (by omega), wi (by omega) (by omega)]; omega
  simp only [w1, w2, w3, w4, w5]
  generalize hL : (b - a) / 4 = L
  have hL4 : 4 * L ≤ b - a := by omega
  refine ⟨fun _ m _ h' => ∃ (u : Nat) (k : Int), m = (u : Int) ∧ a ≤ u ∧ u < b ∧ Shal.Loc h.size 3 [.int .i64 k] h' ∧ Only h.size h1 h', ?_, ?_⟩
  · dsimp only
    rw [ifB_of_true (by rw [decide_eq_true_eq]; omega)]
    refine ⟨fun x y z h' => ∃ (u v t : Nat) (k : Int), x = (u : Int) ∧ y = (v : Int) ∧ z = (t : Int) ∧ a ≤ u ∧ u < b ∧ a ≤ v ∧ v < b ∧ a ≤ t ∧ t < b ∧ Shal.Loc h.size 3 [.int .i64 k] h' ∧ Only h.size h1 h', ?_, ?_⟩
    · refine ifB_of (fun hc => ?_) (fun hc => ?_)
      · have h50 : 50 ≤ b - a := by have := of_decide_eq_true hc; omega
        refine medAdj_spec ho1 l1 (by omega) (by omega) (by omega) fun k2 h2 u2 p2 q2 l2 o2 => ?_
        have ho2 := OwnA.cnt ho1 l1 o2
        refine medAdj_spec ho2 l2 (by omega) (by omega) (by omega) fun k3 h3 u3 p3 q3 l3 o3 => ?_
        have ho3 := OwnA.cnt ho2 l2 o3
        refine medAdj_spec ho3 l3 (by omega) (by omega) (by omega) fun k4 h4 u4 p4 q4 l4 o4 => ?_
        exact ⟨u2, u3, u4, k4, rfl, rfl, rfl, by omega, by omega, by omega, by omega, by omega, by omega, l4, (o2.trans o3).trans o4⟩
      · exact ⟨a + L, a + L * 2, a + L * 3, 0, rfl, rfl, rfl, by omega, by omega, by omega, by omega, by omega, by omega, l1, Only.refl _ _⟩
    · rintro ⟨x, y, z, _⟩ h2 ⟨u, v, t, k, hx, hy, hz, a1, a2, a3, a4, a5, a6, l2, o2⟩
      dsimp only at hx hy hz l2 o2
      subst hx hy hz
      dsimp only [unc]
      refine median_spec (OwnA.cnt ho1 l1 o2) l2 (by omega) (by omega) (by omega) fun k3 h3 u3 p3 l3 o3 => ?_
      exact ⟨u3, k3, rfl, by rcases p3 with rfl | rfl | rfl <;> assumption, by rcases p3 with rfl | rfl | rfl <;> assumption, l3, o2.trans o3⟩
  · rintro ⟨x, y, z, _⟩ h2 ⟨u, k, hy, a1, a2, l2, o2⟩
    dsimp only at hy l2 o2
    subst hy
    dsimp only [unc]
    have u2 : Ext h h2 := ((u1.up h.size).trans (o2.up (Nat.le_refl _))).ext
    refine ld_of (s := .int .i64) (x := k) l2.cell0 ?_
    refine ifB_of (fun hb' => hQ _ _ _ a1 a2 u2) (fun hb' => ?_)
    exact ifB_of (fun hb' => hQ _ _ _ a1 a2 u2) (fun hb' => hQ _ _ _ a1 a2 u2)
end Go.Proofs.W
end
section
set_option maxRecDepth 100000
set_option linter.unusedVariables false
namespace Go.Proofs.W
open Go Go.Shal Go.Proofs
theorem scanUp_loop {p : Nat → Bool} {d : Array Nat} {i j : Nat} {h : Heap} {C : Int → (Bool → PP) → PP} {R : Int → PP} (hj : j < 4611686018427387904) (hij : i ≤ j + 1)
    (hC : ∀ (m : Nat) (M : Bool → PP), i ≤ m → m ≤ j + 1 → M (decide (m ≤ j) && p d[m]!) h → C (m : Int) M h) (hR : R ((Sort.scanUp p d j i : Nat) : Int) h) :
    loopT [.int .i64] (fun (K : Int → PP) (n : Int) => joinT [.bool] (fun (M : Bool → PP) => C n M) (fun (b : Bool) => ifB b (K (IntKind.wrap .i64 (n + (1 : Int)))) (R n))) (i : Int) h := by
  refine ⟨fun n h' => ∃ m : Nat, n = (m : Int) ∧ i ≤ m ∧ m ≤ j + 1 ∧ Sort.scanUp p d j m = Sort.scanUp p d j i ∧ h' = h, fun n _ => j + 1 - n.toNat, ⟨i, rfl, Nat.le_refl _, hij, rfl, rfl⟩, ?_⟩
  rintro ⟨n, _⟩ h1 ⟨m, hn, h1', h2', he, hh⟩
  dsimp only at hn hh
  subst hn hh
  dsimp only [unc]
  refine join_b (decide (m ≤ j) && p d[m]!) (fun h' => h' = h1) (hC m _ h1' h2' ⟨rfl, rfl⟩) ?_
  rintro h1 rfl
  refine ifB_of (fun hc => ?_) (fun hc => ?_)
  · have hc' := hc
    rw [Bool.and_eq_true, decide_eq_true_eq] at hc'
    rw [wi (by omega) (by omega)]
    refine ⟨⟨m + 1, rfl, by omega, by omega, ?_, rfl⟩, (show j + 1 - ((m : Int) + 1).toNat < j + 1 - ((m : Nat) : Int).toNat by omega)⟩
    rw [← he]
    conv => rhs; unfold Sort.scanUp
    rw [if_pos hc]
  · have : Sort.scanUp p d j m = m := by
      unfold Sort.scanUp
      rw [if_neg (by rw [hc]; decide)]
    rw [← he, this] at hR
    exact hR
theorem scanDown_loop {p : Nat → Bool} {d : Array Nat} {i j : Nat} {h : Heap} {C : Int → (Bool → PP) → PP} {R : Int → PP} (hj : j < 4611686018427387904) (h1i : 1 ≤ i) (hij : i ≤ j + 1)
    (hC : ∀ (m : Nat) (M : Bool → PP), i ≤ m + 1 → m ≤ j → M (decide (i ≤ m) && p d[m]!) h → C (m : Int) M h) (hR : R ((Sort.scanDown p d i j : Nat) : Int) h) :
    loopT [.int .i64] (fun (K : Int → PP) (n : Int) => joinT [.bool] (fun (M : Bool → PP) => C n M) (fun (b : Bool) => ifB b (K (IntKind.wrap .i64 (n - (1 : Int)))) (R n))) (j : Int) h := by
  refine ⟨fun n h' => ∃ m : Nat, n = (m : Int) ∧ i ≤ m + 1 ∧ m ≤ j ∧ Sort.scanDown p d i m = Sort.scanDown p d i j ∧ h' = h, fun n _ => n.toNat, ⟨j, rfl, hij, Nat.le_refl _, rfl, rfl⟩, ?_⟩
  rintro ⟨n, _⟩ h1 ⟨m, hn, h1', h2', he, hh⟩
  dsimp only at hn hh
  subst hn hh
  dsimp only [unc]
  refine join_b (decide (i ≤ m) && p d[m]!) (fun h' => h' = h1) (hC m _ h1' h2' ⟨rfl, rfl⟩) ?_
  rintro h1 rfl
  refine ifB_of (fun hc => ?_) (fun hc => ?_)
  · have hc' := hc
    rw [Bool.and_eq_true, decide_eq_true_eq] at hc'
    rw [wi (by omega) (by omega)]
    obtain ⟨m', rfl⟩ : ∃ m', m = m' + 1 := ⟨m - 1, by omega⟩
    refine ⟨⟨m', (show ((m' + 1 : Nat) : Int) - 1 = (m' : Int) by omega), by omega, by omega, ?_, rfl⟩, (show (((m' + 1 : Nat) : Int) - 1).toNat < ((m' + 1 : Nat) : Int).toNat by omega)⟩
    rw [← he]
    conv => rhs; unfold Sort.scanDown
    rw [if_pos hc]
  · have : Sort.scanDown p d i m = m := by
      cases m with
      | zero => rfl
      | succ m =>
        unfold Sort.scanDown
        rw [if_neg (by rw [hc]; decide)]
    rw [← he, this] at hR
    exact hR
theorem partEq_spec {B a b v : Nat} {h : Heap} {s : Sl} {d : Array Nat} {Q : Int → PP} (ho : OwnA B h s d) (hv : a ≤ v) (hv' : v < b) (hb : b ≤ d.size) (hsz : d.size < 2305843009213693952)
    (hQ : ∀ h', OwnA B h' s (Sort.partitionEqual ltN d a b v).2 → But s h h' → Q (((Sort.partitionEqual ltN d a b v).1 : Nat) : Int) h') : slices_partitionEqualOrdered_uint64.C s (a : Int) (b : Int) (v : Int) Q h := by
  apply slices_partitionEqualOrdered_uint64.ok
  unfold slices_partitionEqualOrdered_uint64.F
  refine swapA (n := a) (m := v) ho rfl rfl (by omega) (by omega) fun h1 o1 b1 => ?_
  rw [wi (x := (a : Int) + 1) (by omega) (by omega), wi (x := (b : Int) - 1) (by omega) (by omega)]
  have z1 : (Sort.swp d a v).size = d.size := swp_size' _ _ _
  refine ⟨fun i j h' => ∃ (x y : Nat) (e : Array Nat), i = (x : Int) ∧ j = (y : Int) ∧ a < x ∧ x ≤ y + 1 ∧ y < b ∧ OwnA B h' s e ∧ e.size = d.size ∧ Sort.partEqLoop ltN a x y e = Sort.partitionEqual ltN d a b v ∧ But s h h', fun i j _ => (j + 1 - i).toNat, ⟨a + 1, b - 1, _, rfl, (show (b : Int) - 1 = ((b - 1 : Nat) : Int) by omega), by omega, by omega, by omega, o1, z1, rfl, b1⟩, ?_⟩
  rintro ⟨i, j, _⟩ h2 ⟨x, y, e, hi, hj, hx, hxy, hy, o2, z2, e2, b2⟩
  dsimp only at hi hj o2 b2
  subst hi hj
  dsimp only [unc]
  refine scanUp_loop (p := fun t => !ltN e[a]! t) (d := e) (i := x) (j := y) (by omega) hxy (fun m M m1 m2 hM => ?_) ?_
  · refine draw_ext ?_
    refine ifB_of (fun hc => ?_) (fun hc => ?_)
    · have hm : m ≤ y := by have := of_decide_eq_true hc; omega
      refine rdA o2 rfl (by omega) ?_
      refine rdA o2 rfl (by omega) ?_
      refine less_nat ?_
      rw [decide_eq_true hm, Bool.true_and] at hM
      exact hM
    · have hm : ¬ m ≤ y := by have := of_decide_eq_false hc; omega
      rw [decide_eq_false hm, Bool.false_and] at hM
      exact hM
  · obtain ⟨su1, su2, _, su4⟩ := Sort.scanUp_spec (fun t => !ltN e[a]! t) e y _ x rfl
    have su2 := su2 hxy
    have eq := Sort.partEqLoop_eq ltN a x y e
    generalize hX : Sort.scanUp (fun t => !ltN e[a]! t) e y x = X at su1 su2 su4 eq
    refine scanDown_loop (p := fun t => ltN e[a]! t) (d := e) (i := X) (j := y) (by omega) (by omega) su2 (fun m M m1 m2 hM => ?_) ?_
    · refine draw_ext ?_
      refine ifB_of (fun hc => ?_) (fun hc => ?_)
      · have hm : X ≤ m := by have := of_decide_eq_true hc; omega
        refine rdA o2 rfl (by omega) ?_
        refine rdA o2 rfl (by omega) ?_
        refine less_nat ?_
        rw [decide_eq_true hm, Bool.true_and] at hM
        exact hM
      · have hm : ¬ X ≤ m := by have := of_decide_eq_false hc; omega
        rw [decide_eq_false hm, Bool.false_and] at hM
        exact hM
    · obtain ⟨sd1, sd2, _, sd4⟩ := Sort.scanDown_spec (fun t => ltN e[a]! t) e X y
      have sd2 := sd2 su2
      generalize hY : Sort.scanDown (fun t => ltN e[a]! t) e X y = Y at sd1 sd2 sd4 eq
      refine ifB_of (fun hc => ?_) (fun hc => ?_)
      · have hgt : X > Y := by have := of_decide_eq_true hc; omega
        rw [if_pos hgt] at eq
        rw [← e2, eq] at hQ
        exact hQ h2 o2 b2
      · have hgt : ¬ X > Y := by have := of_decide_eq_false hc; omega
        rw [if_neg hgt] at eq
        have hne : X ≠ Y := by
          intro he
          have h1' := su4 (by omega)
          have h2' := sd4 (by omega) (by omega)
          rw [he] at h1'
          simp only [Bool.not_eq_false'] at h1'
          rw [h2'] at h1'
          cases h1'
        rw [wi (x := (X : Int) + 1) (by omega) (by omega), wi (x := (Y : Int) - 1) (by omega) (by omega)]
        refine swapA (n := X) (m := Y) o2 rfl rfl (by omega) (by omega) fun h3 o3 b3 => ?_
        refine ⟨⟨X + 1, Y - 1, _, rfl, (show (Y : Int) - 1 = ((Y - 1 : Nat) : Int) by omega), by omega, by omega, by omega, o3, by rw [swp_size']; exact z2, ?_, but_trans b2 b3⟩, (show ((Y : Int) - 1 + 1 - ((X : Int) + 1)).toNat < ((y : Int) + 1 - (x : Int)).toNat by omega)⟩
        rw [← e2, eq]
theorem part_spec {B a b v : Nat} {h : Heap} {s : Sl} {d : Array Nat} {Q : Int → Bool → PP} (ho : OwnA B h s d) (hv : a ≤ v) (hv' : v < b) (hb : b ≤ d.size) (hsz : d.size < 2305843009213693952)
    (hQ : ∀ h', OwnA B h' s (Sort.partition ltN d a b v).2.2 → But s h h' → Q (((Sort.partition ltN d a b v).1 : Nat) : Int) (Sort.partition ltN d a b v).2.1 h') : slices_partitionOrdered_uint64.C s (a : Int) (b : Int) (v : Int) Q h := by
  apply slices_partitionOrdered_uint64.ok
  unfold slices_partitionOrdered_uint64.F
  refine swapA (n := a) (m := v) ho rfl rfl (by omega) (by omega) fun h1 o1 b1 => ?_
  have z1 : (Sort.swp d a v).size = d.size := swp_size' _ _ _
  unfold Sort.partition at hQ
  generalize Sort.swp d a v = e at o1 z1 hQ
  dsimp only at hQ
  rw [wi (x := (a : Int) + 1) (by omega) (by omega), wi (x := (b : Int) - 1) (by omega) (by omega), show (b : Int) - 1 = ((b - 1 : Nat) : Int) by omega]
  refine scanUp_loop (p := fun t => ltN t e[a]!) (d := e) (i := a + 1) (j := b - 1) (by omega) (by omega) (fun m M m1 m2 hM => ?_) ?_
  · refine draw_ext ?_
    refine ifB_of (fun hc => ?_) (fun hc => ?_)
    · have hm : m ≤ b - 1 := by have := of_decide_eq_true hc; omega
      refine rdA o1 rfl (by omega) ?_
      refine rdA o1 rfl (by omega) ?_
      refine less_nat ?_
      rw [decide_eq_true hm, Bool.true_and] at hM
      exact hM
    · have hm : ¬ m ≤ b - 1 := by have := of_decide_eq_false hc; omega
      rw [decide_eq_false hm, Bool.false_and] at hM
      exact hM
  · obtain ⟨su1, su2, _, su4⟩ := Sort.scanUp_spec (fun t => ltN t e[a]!) e (b - 1) _ (a + 1) rfl
    have su2 := su2 (by omega)
    generalize hX : Sort.scanUp (fun t => ltN t e[a]!) e (b - 1) (a + 1) = X at su1 su2 su4 hQ
    refine scanDown_loop (p := fun t => !ltN t e[a]!) (d := e) (i := X) (j := b - 1) (by omega) (by omega) su2 (fun m M m1 m2 hM => ?_) ?_
    · refine draw_ext ?_
      refine ifB_of (fun hc => ?_) (fun hc => ?_)
      · have hm : X ≤ m := by have := of_decide_eq_true hc; omega
        refine rdA o1 rfl (by omega) ?_
        refine rdA o1 rfl (by omega) ?_
        refine less_nat ?_
        rw [decide_eq_true hm, Bool.true_and] at hM
        exact hM
      · have hm : ¬ X ≤ m := by have := of_decide_eq_false hc; omega
        rw [decide_eq_false hm, Bool.false_and] at hM
        exact hM
    · obtain ⟨sd1, sd2, _, sd4⟩ := Sort.scanDown_spec (fun t => !ltN t e[a]!) e X (b - 1)
      have sd2 := sd2 su2
      generalize hY : Sort.scanDown (fun t => !ltN t e[a]!) e X (b - 1) = Y at sd1 sd2 sd4 hQ
      refine ifB_of (fun hc => ?_) (fun hc => ?_)
      · have hgt : X > Y := by have := of_decide_eq_true hc; omega
        rw [if_pos hgt] at hQ
        refine swapA (n := Y) (m := a) o1 rfl rfl (by omega) (by omega) fun h3 o3 b3 => ?_
        exact hQ h3 o3 (but_trans b1 b3)
      · have hgt : ¬ X > Y := by have := of_decide_eq_false hc; omega
        rw [if_neg hgt] at hQ
        dsimp only at hQ
        have hne : X ≠ Y := by
          intro he
          have h1' := su4 (by omega)
          have h2' := sd4 (by omega) (by omega)
          rw [he] at h1'
          rw [h1'] at h2'
          cases h2'
        refine swapA (n := X) (m := Y) o1 rfl rfl (by omega) (by omega) fun h3 o3 b3 => ?_
        have z3 : (Sort.swp e X Y).size = d.size := by rw [swp_size']; exact z1
        generalize Sort.swp e X Y = g at o3 z3 hQ
        rw [wi (x := (X : Int) + 1) (by omega) (by omega), wi (x := (Y : Int) - 1) (by omega) (by omega)]
        refine ⟨fun i j h' => ∃ (x y : Nat) (f : Array Nat), i = (x : Int) ∧ j = (y : Int) ∧ a < x ∧ x ≤ y + 1 ∧ y < b ∧ OwnA B h' s f ∧ f.size = d.size ∧ Sort.partLoop ltN a x y f = Sort.partLoop ltN a (X + 1) (Y - 1) g ∧ But s h h', fun i j _ => (j + 1 - i).toNat, ⟨X + 1, Y - 1, g, rfl, (show (Y : Int) - 1 = ((Y - 1 : Nat) : Int) by omega), by omega, by omega, by omega, o3, z3, rfl, but_trans b1 b3⟩, ?_⟩
        rintro ⟨i, j, _⟩ h4 ⟨x, y, f, hi, hj, hx, hxy, hy, o4, z4, e4, b4⟩
        dsimp only at hi hj o4 b4
        subst hi hj
        dsimp only [unc]
        refine scanUp_loop (p := fun t => ltN t f[a]!) (d := f) (i := x) (j := y) (by omega) hxy (fun m M m1 m2 hM => ?_) ?_
        · refine draw_ext ?_
          refine ifB_of (fun hc => ?_) (fun hc => ?_)
          · have hm : m ≤ y := by have := of_decide_eq_true hc; omega
            refine rdA o4 rfl (by omega) ?_
            refine rdA o4 rfl (by omega) ?_
            refine less_nat ?_
            rw [decide_eq_true hm, Bool.true_and] at hM
            exact hM
          · have hm : ¬ m ≤ y := by have := of_decide_eq_false hc; omega
            rw [decide_eq_false hm, Bool.false_and] at hM
            exact hM
        · obtain ⟨tu1, tu2, _, tu4⟩ := Sort.scanUp_spec (fun t => ltN t f[a]!) f y _ x rfl
          have tu2 := tu2 hxy
          have eq := Sort.partLoop_eq ltN a x y f
          generalize Sort.scanUp (fun t => ltN t f[a]!) f y x = U at tu1 tu2 tu4 eq
          refine scanDown_loop (p := fun t => !ltN t f[a]!) (d := f) (i := U) (j := y) (by omega) (by omega) tu2 (fun m M m1 m2 hM => ?_) ?_
          · refine draw_ext ?_
            refine ifB_of (fun hc => ?_) (fun hc => ?_)
            · have hm : U ≤ m := by have := of_decide_eq_true hc; omega
              refine rdA o4 rfl (by omega) ?_
              refine rdA o4 rfl (by omega) ?_
              refine less_nat ?_
              rw [decide_eq_true hm, Bool.true_and] at hM
              exact hM
            · have hm : ¬ U ≤ m := by have := of_decide_eq_false hc; omega
              rw [decide_eq_false hm, Bool.false_and] at hM
              exact hM
          · obtain ⟨td1, td2, _, td4⟩ := Sort.scanDown_spec (fun t => !ltN t f[a]!) f U y
            have td2 := td2 tu2
            generalize Sort.scanDown (fun t => !ltN t f[a]!) f U y = V at td1 td2 td4 eq
            refine ifB_of (fun hc => ?_) (fun hc => ?_)
            · have hgt' : U > V := by have := of_decide_eq_true hc; omega
              rw [if_pos hgt'] at eq
              refine swapA (n := V) (m := a) o4 rfl rfl (by omega) (by omega) fun h5 o5 b5 => ?_
              rw [← e4, eq] at hQ
              exact hQ h5 o5 (but_trans b4 b5)
            · have hgt' : ¬ U > V := by have := of_decide_eq_false hc; omega
              rw [if_neg hgt'] at eq
              have hne : U ≠ V := by
                intro he
                have h1' := tu4 (by omega)
                have h2' := td4 (by omega) (by omega)
                rw [he] at h1'
                rw [h1'] at h2'
                cases h2'
              rw [wi (x := (U : Int) + 1) (by omega) (by omega), wi (x := (V : Int) - 1) (by omega) (by omega)]
              refine swapA (n := U) (m := V) o4 rfl rfl (by omega) (by omega) fun h5 o5 b5 => ?_
              refine ⟨⟨U + 1, V - 1, _, rfl, (show (V : Int) - 1 = ((V - 1 : Nat) : Int) by omega), by omega, by omega, by omega, o5, by rw [swp_size']; exact z4, ?_, but_trans b4 b5⟩, (show ((V : Int) - 1 + 1 - ((U : Int) + 1)).toNat < ((y : Int) + 1 - (x : Int)).toNat by omega)⟩
              rw [← e4, eq]
end Go.Proofs.W
end
section
set_option maxRecDepth 100000
set_option linter.unusedVariables false
namespace Go.Proofs.W
open Go Go.Shal Go.Proofs
theorem pins_spec {B a b : Nat} {h : Heap} {s : Sl} {d : Array Nat} {Q : Bool → PP} (ho : OwnA B h s d) (hab : a < b) (hb : b ≤ d.size) (hsz : d.size < 2305843009213693952)
    (hQ : ∀ h', OwnA B h' s (Sort.partialInsertionSort ltN d a b).1 → But s h h' → Q (Sort.partialInsertionSort ltN d a b).2 h') : slices_partialInsertionSortOrdered_uint64.C s (a : Int) (b : Int) Q h := by
  apply slices_partialInsertionSortOrdered_uint64.ok
  unfold slices_partialInsertionSortOrdered_uint64.F
  rw [wi (x := (a : Int) + 1) (by omega) (by omega)]
  refine ⟨fun n _ t h' => ∃ (x st : Nat) (e : Array Nat), n = (x : Int) ∧ t = (st : Int) ∧ st ≤ 5 ∧ a < x ∧ x ≤ b ∧ OwnA B h' s e ∧ e.size = d.size ∧ Sort.partialIns ltN a b (5 - st) x e = Sort.partialInsertionSort ltN d a b ∧ But s h h', fun _ _ t _ => 5 - t.toNat, ⟨a + 1, 0, d, rfl, rfl, by omega, by omega, by omega, ho, rfl, rfl, But.refl _ _⟩, ?_⟩
  rintro ⟨n, jb, t, _⟩ h1 ⟨x, st, e, hn, ht, hst, hx, hxb, o1, z1, e1, b1⟩
  dsimp only at hn ht o1 b1
  subst hn ht
  dsimp only [unc]
  refine ifB_of (fun hc => ?_) (fun hc => ?_)
  · have hst5 : st < 5 := by have := of_decide_eq_true hc; omega
    obtain ⟨s', hs'⟩ : ∃ s', 5 - st = s' + 1 := ⟨4 - st, by omega⟩
    rw [hs', Sort.partialIns_succ] at e1
    refine ⟨fun n _ h' => ∃ (y : Nat) (g : Array Nat), n = (y : Int) ∧ a < y ∧ y ≤ b ∧ OwnA B h' s g ∧ g.size = d.size ∧ Sort.partialIns ltN a b s' y g = Sort.partialInsertionSort ltN d a b ∧ But s h h', ?_, ?_⟩
    · refine ⟨fun n h' => ∃ m : Nat, n = (m : Int) ∧ x ≤ m ∧ m ≤ b ∧ Sort.scanSorted ltN e b m = Sort.scanSorted ltN e b x ∧ h' = h1, fun n _ => b - n.toNat, ⟨x, rfl, Nat.le_refl _, hxb, rfl, rfl⟩, ?_⟩
      rintro ⟨n, _⟩ h2 ⟨m, hn, hm, hmb, em, hh⟩
      dsimp only at hn hh
      subst hn hh
      dsimp only [unc]
      have wm : IntKind.wrap .i64 ((m : Int) - (1 : Int)) = ((m - 1 : Nat) : Int) := by rw [wi (by omega) (by omega)]; omega
      rw [wm]
      refine join_b (decide (m < b) && !ltN e[m]! e[m - 1]!) (fun h' => h' = h2) ?_ ?_
      · refine draw_ext ?_
        refine ifB_of (fun hc => ?_) (fun hc => ?_)
        · have hm1 : m < b := by have := of_decide_eq_true hc; omega
          refine rdA o1 rfl (by omega) ?_
          refine rdA o1 rfl (by omega) ?_
          refine less_nat ⟨?_, rfl⟩
          rw [decide_eq_true hm1, Bool.true_and]
        · have hm1 : ¬ m < b := by have := of_decide_eq_false hc; omega
          exact ⟨by rw [decide_eq_false hm1, Bool.false_and], rfl⟩
      · rintro h2 rfl
        refine ifB_of (fun hcd => ?_) (fun hcd => ?_)
        · have hm1 : m < b := by rw [Bool.and_eq_true, decide_eq_true_eq] at hcd; exact hcd.1
          rw [wi (x := (m : Int) + 1) (by omega) (by omega)]
          refine ⟨⟨m + 1, rfl, by omega, by omega, ?_, rfl⟩, (show b - ((m : Int) + 1).toNat < b - ((m : Nat) : Int).toNat by omega)⟩
          rw [← em]
          conv => rhs; unfold Sort.scanSorted
          rw [if_pos hcd]
        · have hX : Sort.scanSorted ltN e b x = m := by
            rw [← em]
            unfold Sort.scanSorted
            rw [if_neg (by rw [hcd]; decide)]
          rw [hX] at e1
          refine ifB_of (fun hc => ?_) (fun hc => ?_)
          · have : m = b := by have : (m : Int) = b := by simpa using hc
                               omega
            rw [if_pos this] at e1
            rw [← e1] at hQ
            exact hQ h2 o1 b1
          · have hne : m ≠ b := by rintro rfl; simp at hc
            rw [if_neg hne] at e1
            rw [wi (x := (b : Int) - (a : Int)) (by omega) (by omega)]
            refine ifB_of (fun hc => ?_) (fun hc => ?_)
            · have h50 : b - a < 50 := by have := of_decide_eq_true hc; omega
              rw [if_pos h50] at e1
              rw [← e1] at hQ
              exact hQ h2 o1 b1
            · have h50 : ¬ b - a < 50 := by have := of_decide_eq_false hc; omega
              rw [if_neg h50] at e1
              refine swapA (n := m) (m := m - 1) o1 rfl rfl (by omega) (by omega) fun h3 o3 b3 => ?_
              have z3 : (Sort.swp e m (m - 1)).size = d.size := by rw [swp_size']; exact z1
              have b13 := but_trans b1 b3
              generalize Sort.swp e m (m - 1) = g3 at o3 z3 e1
              refine join_u (fun h' => OwnA B h' s (Sort.fixDown ltN a m g3) ∧ (Sort.fixDown ltN a m g3).size = d.size ∧ But s h h') ?_ ?_
              · rw [wi (x := (m : Int) - (a : Int)) (by omega) (by omega)]
                refine ifB_of (fun hc => ?_) (fun hc => ?_)
                · have h2' : m - a ≥ 2 := by have := of_decide_eq_true hc; omega
                  have hfd : Sort.fixDown ltN a m g3 = Sort.shiftDown ltN (m - 1) g3 := by unfold Sort.fixDown; rw [if_pos h2']
                  rw [hfd]
                  refine ⟨fun n h' => ∃ (y : Nat) (g : Array Nat), n = (y : Int) ∧ y ≤ m - 1 ∧ OwnA B h' s g ∧ g.size = d.size ∧ Sort.shiftDown ltN y g = Sort.shiftDown ltN (m - 1) g3 ∧ But s h h', fun n _ => n.toNat, ⟨m - 1, g3, rfl, Nat.le_refl _, o3, z3, rfl, b13⟩, ?_⟩
                  rintro ⟨n, _⟩ h4 ⟨y, g, hn, hy, o4, z4, e4, b4⟩
                  dsimp only at hn o4 b4
                  subst hn
                  dsimp only [unc]
                  refine ifB_of (fun hc => ?_) (fun hc => ?_)
                  · have hy1 : 1 ≤ y := by have := of_decide_eq_true hc; omega
                    obtain ⟨y', rfl⟩ : ∃ y', y = y' + 1 := ⟨y - 1, by omega⟩
                    have wy : IntKind.wrap .i64 (((y' + 1 : Nat) : Int) - (1 : Int)) = (y' : Int) := by rw [wi (by omega) (by omega)]; omega
                    rw [wy]
                    refine draw_ext ?_
                    refine rdA o4 rfl (by omega) ?_
                    refine rdA o4 rfl (by omega) ?_
                    refine less_nat ?_
                    refine ifB_of (fun hl => ?_) (fun hl => ?_)
                    · have : g = Sort.shiftDown ltN (m - 1) g3 := by
                        rw [← e4]
                        unfold Sort.shiftDown
                        rw [if_pos hl]
                      rw [← this]
                      exact ⟨o4, z4, b4⟩
                    · refine swapA (n := y' + 1) (m := y') o4 rfl rfl (by omega) (by omega) fun h5 o5 b5 => ?_
                      refine ⟨⟨y', _, rfl, by omega, o5, by rw [swp_size']; exact z4, ?_, but_trans b4 b5⟩, (show ((y' : Nat) : Int).toNat < ((y' + 1 : Nat) : Int).toNat by omega)⟩
                      rw [← e4]
                      conv => rhs; unfold Sort.shiftDown
                      rw [if_neg (by rw [hl]; decide)]
                  · have hy0 : y = 0 := by have := of_decide_eq_false hc; omega
                    subst hy0
                    have : g = Sort.shiftDown ltN (m - 1) g3 := e4
                    rw [← this]
                    exact ⟨o4, z4, b4⟩
                · have h2' : ¬ m - a ≥ 2 := by have := of_decide_eq_false hc; omega
                  have hfd : Sort.fixDown ltN a m g3 = g3 := by unfold Sort.fixDown; rw [if_neg h2']
                  rw [hfd]
                  exact ⟨o3, z3, b13⟩
              · rintro h4 ⟨o4, z4, b4⟩
                generalize Sort.fixDown ltN a m g3 = g4 at o4 z4 e1
                rw [wi (x := (b : Int) - (m : Int)) (by omega) (by omega)]
                refine ifB_of (fun hc => ?_) (fun hc => ?_)
                · have h2' : b - m ≥ 2 := by have := of_decide_eq_true hc; omega
                  have hfu : Sort.fixUp ltN b m g4 = Sort.shiftUp ltN b (m + 1) g4 := by unfold Sort.fixUp; rw [if_pos h2']
                  rw [hfu] at e1
                  rw [wi (x := (m : Int) + 1) (by omega) (by omega)]
                  refine ⟨fun n h' => ∃ (y : Nat) (g : Array Nat), n = (y : Int) ∧ m + 1 ≤ y ∧ y ≤ b ∧ OwnA B h' s g ∧ g.size = d.size ∧ Sort.shiftUp ltN b y g = Sort.shiftUp ltN b (m + 1) g4 ∧ But s h h', fun n _ => b - n.toNat, ⟨m + 1, g4, rfl, Nat.le_refl _, by omega, o4, z4, rfl, b4⟩, ?_⟩
                  rintro ⟨n, _⟩ h5 ⟨y, g, hn, hy, hyb, o5, z5, e5, b5⟩
                  dsimp only at hn o5 b5
                  subst hn
                  dsimp only [unc]
                  refine ifB_of (fun hc => ?_) (fun hc => ?_)
                  · have hy1 : y < b := by have := of_decide_eq_true hc; omega
                    have wy : IntKind.wrap .i64 ((y : Int) - (1 : Int)) = ((y - 1 : Nat) : Int) := by rw [wi (by omega) (by omega)]; omega
                    rw [wy]
                    refine draw_ext ?_
                    refine rdA o5 rfl (by omega) ?_
                    refine rdA o5 rfl (by omega) ?_
                    refine less_nat ?_
                    refine ifB_of (fun hl => ?_) (fun hl => ?_)
                    · have : g = Sort.shiftUp ltN b (m + 1) g4 := by
                        rw [← e5]
                        unfold Sort.shiftUp
                        rw [if_pos hy1, if_pos hl]
                      rw [← this] at e1
                      exact ⟨m, g, rfl, by omega, hmb, o5, z5, e1, b5⟩
                    · refine swapA (n := y) (m := y - 1) o5 rfl rfl (by omega) (by omega) fun h6 o6 b6 => ?_
                      rw [wi (x := (y : Int) + 1) (by omega) (by omega)]
                      refine ⟨⟨y + 1, _, rfl, by omega, by omega, o6, by rw [swp_size']; exact z5, ?_, but_trans b5 b6⟩, (show b - ((y : Int) + 1).toNat < b - ((y : Nat) : Int).toNat by omega)⟩
                      rw [← e5]
                      conv => rhs; unfold Sort.shiftUp
                      rw [if_pos hy1, if_neg (by rw [hl]; decide)]
                  · have hy1 : ¬ y < b := by have := of_decide_eq_false hc; omega
                    have : g = Sort.shiftUp ltN b (m + 1) g4 := by
                      rw [← e5]
                      unfold Sort.shiftUp
                      rw [if_neg hy1]
                    rw [← this] at e1
                    exact ⟨m, g, rfl, by omega, hmb, o5, z5, e1, b5⟩
                · have h2' : ¬ b - m ≥ 2 := by have := of_decide_eq_false hc; omega
                  have hfu : Sort.fixUp ltN b m g4 = g4 := by unfold Sort.fixUp; rw [if_neg h2']
                  rw [hfu] at e1
                  exact ⟨m, g4, rfl, by omega, hmb, o4, z4, e1, b4⟩
    · rintro ⟨n, jb', _⟩ h2 ⟨y, g, hn, hy, hyb, o2, z2, e2, b2⟩
      dsimp only at hn o2 b2
      subst hn
      dsimp only [unc]
      rw [wi (x := (st : Int) + 1) (by omega) (by omega)]
      exact ⟨⟨y, st + 1, g, rfl, rfl, by omega, hy, hyb, o2, z2, by rw [show 5 - (st + 1) = s' by omega]; exact e2, b2⟩, (show 5 - ((st : Int) + 1).toNat < 5 - ((st : Nat) : Int).toNat by omega)⟩
  · have hst5 : st = 5 := by have := of_decide_eq_false hc; omega
    subst hst5
    have : (e, false) = Sort.partialInsertionSort ltN d a b := e1
    rw [← this] at hQ
    exact hQ h1 o1 b1
/-! ### Patterns -/
theorem pow_bitLen {n : Nat} (h : 0 < n) : 2 ^ Lib.bitLen n ≤ 2 * n := by
  have : ∀ f n, 0 < n → 2 ^ Lib.bitLenAux f n ≤ 2 * n := by
    intro f
    induction f with
    | zero => intro n hn; simp [Lib.bitLenAux]; omega
    | succ f ih =>
      intro n hn
      unfold Lib.bitLenAux
      rw [if_neg (by omega)]
      by_cases h2 : n / 2 = 0
      · have hz : Lib.bitLenAux f 0 = 0 := by cases f <;> simp [Lib.bitLenAux]
        rw [h2, hz]
        simp
        omega
      · have := ih (n / 2) (by omega)
        rw [Nat.pow_add]
        omega
  exact this 64 n h
theorem len_spec {h : Heap} {n : Nat} {Q : Int → PP} (hn : n < 18446744073709551616) (hQ : Q (Lib.bitLen n : Int) h) : math_bits_Len.C (n : Int) Q h :=
  callT_of fun w hw => (Tryz.bits_Len (n : Int) w (by omega) (by omega)).mono fun e w' ⟨h1, h2⟩ => by
    subst h2
    refine ⟨Same.refl _, (((Lib.bitLen n : Nat) : Int), ()), ?_, by rw [hw]; exact hQ⟩
    rw [h1]
    rfl
theorem bitLen64 (n : Nat) : Lib.bitLen n ≤ 64 := by
  have h1 : ∀ g m, Lib.bitLenAux g m ≤ g := by
    intro g
    induction g with
    | zero => intro m; simp [Lib.bitLenAux]
    | succ g ihg => intro m; unfold Lib.bitLenAux; have := ihg (m / 2); split <;> omega
  exact h1 64 n
theorem pow2_spec {h : Heap} {n : Nat} {Q : Int → PP} (h1 : 0 < n) (hn : n < 2305843009213693952) (hQ : ∀ m : Nat, 1 ≤ m → m ≤ 2 * n → Q (m : Int) h) : slices_nextPowerOfTwo.C (n : Int) Q h := by
  apply slices_nextPowerOfTwo.ok
  unfold slices_nextPowerOfTwo.F
  rw [wu (by omega) (by omega)]
  refine len_spec (by omega) ⟨by omega, ?_⟩
  have hb := pow_bitLen h1
  have h64 := bitLen64 n
  have hmin : min ((Lib.bitLen n : Nat) : Int).toNat (IntKind.bits .u64) = Lib.bitLen n := by
    rw [show IntKind.bits .u64 = 64 from rfl]
    omega
  rw [hmin]
  have hp : (1 : Int) * 2 ^ Lib.bitLen n = ((2 ^ Lib.bitLen n : Nat) : Int) := by rw [Int.one_mul]; norm_cast
  have h1p : 1 ≤ 2 ^ Lib.bitLen n := Nat.one_le_two_pow
  rw [hp]
  generalize 2 ^ Lib.bitLen n = P at hb h1p
  rw [wu (by omega) (by omega)]
  exact hQ _ h1p hb
theorem and_le (x : Int) (y : Nat) (hy : y < 18446744073709551616) : ∃ t : Nat, andI .u64 x (y : Int) = (t : Int) ∧ t ≤ y := by
  refine ⟨(BitVec.ofInt 64 x &&& BitVec.ofInt 64 (y : Int)).toNat, ?_, ?_⟩
  · unfold andI
    rw [show IntKind.bits .u64 = 64 from rfl]
    have := (BitVec.ofInt 64 x &&& BitVec.ofInt 64 (y : Int)).isLt
    rw [wu (by omega) (by omega)]
  · rw [BitVec.toNat_and]
    have e : (BitVec.ofInt 64 (y : Int)).toNat = y := by
      rw [BitVec.toNat_ofInt]
      omega
    rw [e]
    exact Nat.and_le_right
theorem xor_next_spec {c : Nat} {v : Int} {h : Heap} {Q : Int → PP} (l : Shal.Loc c 375 [.int .u64 v] h) (hQ : ∀ (v' : Int) h', Shal.Loc c 375 [.int .u64 v'] h' → Only c h h' → Q v' h') : slices_xorshift_Next.C (some ⟨c, 0, none⟩) Q h := by
  apply slices_xorshift_Next.ok
  unfold slices_xorshift_Next.F
  refine draw_ext ?_
  rw [nilP_some]
  refine ldG_ext (s := .int .u64) (x := v) l.cell0 ?_
  rw [nilP_some]
  refine ldG_ext (s := .int .u64) (x := v) l.cell0 ⟨by decide, ?_⟩
  rw [nilP_some]
  refine st_loc0 (s := .int .u64) l (by decide) fun h1 l1 o1 => ?_
  refine draw_ext ?_
  rw [nilP_some]
  refine ldG_ext (s := .int .u64) (x := _) l1.cell0 ?_
  rw [nilP_some]
  refine ldG_ext (s := .int .u64) (x := _) l1.cell0 ⟨by decide, ?_⟩
  rw [nilP_some]
  refine st_loc0 (s := .int .u64) l1 (by decide) fun h2 l2 o2 => ?_
  refine draw_ext ?_
  rw [nilP_some]
  refine ldG_ext (s := .int .u64) (x := _) l2.cell0 ?_
  rw [nilP_some]
  refine ldG_ext (s := .int .u64) (x := _) l2.cell0 ⟨by decide, ?_⟩
  rw [nilP_some]
  refine st_loc0 (s := .int .u64) l2 (by decide) fun h3 l3 o3 => ?_
  rw [nilP_some]
  refine ld_of (s := .int .u64) (x := _) l3.cell0 ?_
  exact hQ _ h3 l3 ((o1.trans o2).trans o3)
theorem but_only {s : Sl} {c : Nat} {h h1 h2 : Heap} (b : But s h h1) (hc : h.size ≤ c) (o : Only c h1 h2) : But s h h2 :=
  ⟨by rw [o.1]; exact b.1, fun n x hn hne => by rw [o.2 n (by have := lt_of_some hn; omega)]; exact b.2 n x hn hne⟩
theorem brk_spec {B a b : Nat} {h : Heap} {s : Sl} {d : Array Nat} {Q : PP} (ho : OwnA B h s d) (hab : a + 8 ≤ b) (hb : b ≤ d.size) (hsz : d.size < 2305843009213693952)
    (hQ : ∀ h' e, OwnA B h' s e → Sort.PermIn a b d e → But s h h' → Q h') : slices_breakPatternsOrdered_uint64.C s (a : Int) (b : Int) Q h := by
  apply slices_breakPatternsOrdered_uint64.ok
  unfold slices_breakPatternsOrdered_uint64.F
  have w1 : IntKind.wrap .i64 ((b : Int) - (a : Int)) = ((b - a : Nat) : Int) := by rw [wi (by omega) (by omega)]; omega
  have w2 : IntKind.wrap .i64 (Int.tdiv ((b - a : Nat) : Int) (4 : Int)) = (((b - a) / 4 : Nat) : Int) := by rw [show (4 : Int) = ((4 : Nat) : Int) from rfl, tdiv_nat, wi (by omega) (by omega)]
  have w4 : IntKind.wrap .i64 ((a : Int) + IntKind.wrap .i64 ((((b - a) / 4 : Nat) : Int) * (2 : Int))) = ((a + (b - a) / 4 * 2 : Nat) : Int) := by rw [wi (x := (((b - a) / 4 : Nat) : Int) * 2) (by omega) (by omega), wi (by omega) (by omega)]; omega
  have w5 : IntKind.wrap .i64 (((a + (b - a) / 4 * 2 : Nat) : Int) + (1 : Int)) = ((a + (b - a) / 4 * 2 + 1 : Nat) : Int) := by rw [wi (by omega) (by omega)]; omega
  have w6 : IntKind.wrap .i64 (((a + (b - a) / 4 * 2 : Nat) : Int) - (1 : Int)) = ((a + (b - a) / 4 * 2 - 1 : Nat) : Int) := by rw [wi (by omega) (by omega)]; omega
  simp only [w1, w2, w4, w5, w6]
  rw [ifB_of_true (by rw [decide_eq_true_eq]; omega)]
  refine newP_loc fun h1 u1 z1 l1 => ?_
  refine st_loc0 (s := .int .u64) l1 (by decide) fun h2 l2 o2 => ?_
  have ho2 : OwnA B h2 s d := Own.only (Own.ext ho u1) o2 (Own.rowne (Own.ext ho u1) l1 (by decide))
  have u2 : Ext h h2 := ((u1.up h.size).trans (o2.up (Nat.le_refl _))).ext
  refine pow2_spec (by omega) (by omega) fun M hM1 hM2 => ⟨by decide, ?_⟩
  generalize hL : (b - a) / 4 * 2 = L
  have hL1 : 4 ≤ L := by omega
  have hL2 : a + L + 1 < b := by omega
  refine ⟨fun n h' => ∃ (k : Nat) (e : Array Nat) (v : Int), n = (k : Int) ∧ a + L - 1 ≤ k ∧ k ≤ a + L + 2 ∧ OwnA B h' s e ∧ Sort.PermIn a b d e ∧ Shal.Loc h.size 375 [.int .u64 v] h' ∧ But s h h', fun n _ => a + L + 2 - n.toNat, ⟨_, d, _, rfl, Nat.le_refl _, by omega, ho2, Sort.permIn_refl d a b, l2, ext_but u2⟩, ?_⟩
  rintro ⟨n, _⟩ h3 ⟨k, e, v, hn, hk1, hk2, o3, p3, l3, b3⟩
  dsimp only at hn o3 l3 b3
  subst hn
  dsimp only [unc]
  have z3 : e.size = d.size := p3.1
  refine ⟨by decide, ?_⟩
  refine ifB_of (fun hc => ?_) (fun hc => ?_)
  · have hk : k ≤ a + L + 1 := by have := of_decide_eq_true hc; omega
    refine xor_next_spec l3 fun v' h4 l4 o4 => ?_
    have ho4 : OwnA B h4 s e := Own.only o3 o4 (Own.rowne o3 l3 (by decide))
    have b4 : But s h h4 := but_only b3 (Nat.le_refl _) o4
    have wM : IntKind.wrap .u64 ((M : Int) - (1 : Int)) = ((M - 1 : Nat) : Int) := by rw [wu (by omega) (by omega)]; omega
    obtain ⟨t, ht, htM⟩ := and_le v' (M - 1) (by omega)
    have hba : b - a < 2305843009213693952 := by omega
    have ht2 : t < 2 * (b - a) := by omega
    rw [wM, ht, wi (x := (t : Int)) (by omega) (by omega)]
    clear wM ht htM hM1 hM2 w1 w2 w4 w5 w6
    refine join_1 (s := .int .i64) (fun x h' => ∃ r : Nat, x = (r : Int) ∧ r < b - a ∧ h' = h4) ?_ ?_
    · refine ifB_of (fun hc => ?_) (fun hc => ?_)
      · have hge : b - a ≤ t := by have := of_decide_eq_true hc; omega
        have e : IntKind.wrap .i64 ((t : Int) - ((b - a : Nat) : Int)) = ((t - (b - a) : Nat) : Int) := by
          rw [wi (x := (t : Int) - ((b - a : Nat) : Int)) (by omega) (by omega)]
          omega
        exact ⟨t - (b - a), e, by omega, rfl⟩
      · have hlt : t < b - a := by have := of_decide_eq_false hc; omega
        exact ⟨t, rfl, hlt, rfl⟩
    · rintro x h4 ⟨r, rfl, hr, rfl⟩
      rw [wi (x := (a : Int) + (r : Int)) (by omega) (by omega)]
      refine swapA (n := k) (m := a + r) ho4 rfl (by omega) (by omega) (by omega) fun h5 o5 b5 => ?_
      rw [wi (x := (k : Int) + 1) (by omega) (by omega)]
      have l5 : Shal.Loc h.size 375 [.int .u64 v'] h5 := Shal.Loc.but l4 b5 (Own.rowne ho4 l4 (by decide))
      refine ⟨⟨k + 1, _, v', rfl, by omega, by omega, o5, Sort.permIn_trans _ _ _ a b p3 (Sort.swp_permIn e a b k (a + r) (by omega) (by omega) (by omega) (by omega) (by omega)), l5, but_trans b4 b5⟩, (show a + L + 2 - ((k : Int) + 1).toNat < a + L + 2 - ((k : Nat) : Int).toNat by omega)⟩
  · have := p3
    exact hQ h3 e o3 p3 b3
end Go.Proofs.W
end
section
set_option maxRecDepth 100000
set_option linter.unusedVariables false
namespace Go.Proofs.W
open Go Go.Shal Go.Proofs
theorem pdq_spec : ∀ (n : Nat) {B a b : Nat} {lim : Int} {h : Heap} {s : Sl} {d : Array Nat} {Q : PP}, b - a < n → OwnA B h s d → a ≤ b → b ≤ d.size → d.size < 2305843009213693952 → Sort.Below ltN a b d →
    (∀ h' R, OwnA B h' s R → Sort.PermIn a b d R → Sort.SortedIn ltN a b R → But s h h' → Q h') → slices_pdqsortOrdered_uint64.C s (a : Int) (b : Int) lim Q h := by
  intro n
  induction n with
  | zero => intro B a b lim h s d Q hn; omega
  | succ n ih =>
  intro B a b lim h s d Q hn ho hab hb hsz hB hQ
  apply slices_pdqsortOrdered_uint64.ok
  unfold slices_pdqsortOrdered_uint64.F
  refine ⟨fun _ x _ _ y h' => ∃ (u v : Nat) (e : Array Nat), x = (u : Int) ∧ y = (v : Int) ∧ a ≤ u ∧ u ≤ v ∧ v ≤ b ∧ OwnA B h' s e ∧ e.size = d.size ∧ Sort.Below ltN u v e ∧ But s h h' ∧ (∀ R, Sort.PermIn u v e R → Sort.SortedIn ltN u v R → Sort.PermIn a b d R ∧ Sort.SortedIn ltN a b R), fun _ x _ _ y _ => (y - x).toNat,
    ⟨a, b, d, rfl, rfl, Nat.le_refl _, hab, Nat.le_refl _, ho, rfl, hB, But.refl _ _, fun R h1 h2 => ⟨h1, h2⟩⟩, ?_⟩
  rintro ⟨l, x, b4, b5, y, _⟩ h1 ⟨u, v, e, hx, hy, hau, huv, hvb, o1, z1, B1, bt1, fin⟩
  dsimp only at hx hy o1 bt1
  subst hx hy
  dsimp only [unc]
  have w1 : IntKind.wrap .i64 ((v : Int) - (u : Int)) = ((v - u : Nat) : Int) := by rw [wi (by omega) (by omega)]; omega
  rw [w1]
  have hve : v ≤ e.size := by omega
  refine ifB_of (fun hc => ?_) (fun hc => ?_)
  · obtain ⟨p, q⟩ := Sort.insertionSort_holds (lt := ltN) swoN e u v huv hve
    obtain ⟨p, q⟩ := fin _ p q
    exact ins_spec o1 huv hve (by omega) fun h2 o2 bt2 => hQ h2 _ o2 p q (but_trans bt1 bt2)
  · have h12 : 12 < v - u := by have := of_decide_eq_false hc; omega
    refine ifB_of (fun hc => ?_) (fun hc => ?_)
    · obtain ⟨p, q⟩ := Sort.heapSort_holds (lt := ltN) swoN e u v huv hve
      obtain ⟨p, q⟩ := fin _ p q
      exact heap_spec o1 huv hve (by omega) fun h2 o2 bt2 => hQ h2 _ o2 p q (but_trans bt1 bt2)
    · refine join_1 (s := .int .i64) (fun _ h' => ∃ e1, OwnA B h' s e1 ∧ Sort.PermIn u v e e1 ∧ But s h h') ?_ ?_
      · refine ifB_of (fun hc => ?_) (fun hc => ?_)
        · exact brk_spec o1 (by omega) hve (by omega) fun h2 e1 o2 p2 bt2 => ⟨e1, o2, p2, but_trans bt1 bt2⟩
        · exact ⟨e, o1, Sort.permIn_refl e u v, bt1⟩
      · rintro l8 h2 ⟨e1, o2, p2, bt2⟩
        have s2 : e1.size = e.size := p2.1
        refine pivot_spec o2 (by omega) (by omega) (by omega) fun pv hint h3 hp1 hp2 u3 => ?_
        have o3 := Own.ext o2 u3
        have bt3 : But s h h3 := but_trans bt2 (ext_but u3)
        refine ⟨fun p _ h' => ∃ (w : Nat) (e2 : Array Nat), p = (w : Int) ∧ u ≤ w ∧ w < v ∧ OwnA B h' s e2 ∧ Sort.PermIn u v e e2 ∧ But s h h', ?_, ?_⟩
        · refine ifB_of (fun hc => ?_) (fun hc => ?_)
          · refine rev_spec o3 (by omega) (by omega) (by omega) fun h4 o4 bt4 => ?_
            have ew : IntKind.wrap .i64 (IntKind.wrap .i64 ((v : Int) - (1 : Int)) - IntKind.wrap .i64 ((pv : Int) - (u : Int))) = ((v - 1 - (pv - u) : Nat) : Int) := by
              rw [wi (x := (v : Int) - 1) (by omega) (by omega), wi (x := (pv : Int) - (u : Int)) (by omega) (by omega), wi (by omega) (by omega)]
              omega
            exact ⟨v - 1 - (pv - u), _, ew, by omega, by omega, o4, Sort.permIn_trans _ _ _ u v p2 (Sort.reverseRange_holds e1 u v huv (by omega)), but_trans bt3 bt4⟩
          · exact ⟨pv, e1, rfl, hp1, hp2, o3, p2, bt3⟩
        · rintro ⟨p, hint', _⟩ h4 ⟨w, e2, hp, hw1, hw2, o4, p4, bt4⟩
          dsimp only at hp o4 bt4
          subst hp
          dsimp only [unc]
          have s4 : e2.size = e.size := p4.1
          have B4 : Sort.Below ltN u v e2 := B1.perm hve p4
          refine join_u (fun h' => ∃ e3, OwnA B h' s e3 ∧ Sort.PermIn u v e e3 ∧ But s h h') ?_ ?_
          · refine join_1 (s := .bool) (fun _ h' => h' = h4) ?_ ?_
            · refine ifB_of (fun hc => ?_) (fun hc => rfl)
              exact ifB_of (fun hc => rfl) (fun hc => rfl)
            · rintro b16 h4 rfl
              refine ifB_of (fun hc => ?_) (fun hc => ⟨e2, o4, p4, bt4⟩)
              obtain ⟨q1, q2⟩ := Sort.partialInsertionSort_holds (lt := ltN) swoN e2 u v (by omega) (by omega) B4
              refine pins_spec o4 (by omega) (by omega) (by omega) fun h5 o5 bt5 => ?_
              have q3 := Sort.permIn_trans _ _ _ u v p4 q1
              refine ifB_of (fun hc => ?_) (fun hc => ⟨_, o5, q3, but_trans bt4 bt5⟩)
              obtain ⟨r1, r2⟩ := fin _ q3 (q2 hc)
              exact hQ h5 _ o5 r1 r2 (but_trans bt4 bt5)
          · rintro h5 ⟨e3, o5, p5, bt5⟩
            have s5 : e3.size = e.size := p5.1
            have B5 : Sort.Below ltN u v e3 := B1.perm hve p5
            refine join_b (decide (0 < u) && !ltN e3[u - 1]! e3[w]!) (fun h' => h' = h5) ?_ ?_
            · refine draw_ext ?_
              refine ifB_of (fun hc => ?_) (fun hc => ?_)
              · have hu0 : 0 < u := by have := of_decide_eq_true hc; omega
                rw [wi (x := (u : Int) - 1) (by omega) (by omega)]
                refine rdA (n := u - 1) o5 (by omega) (by omega) ?_
                refine rdA o5 rfl (by omega) ?_
                refine less_nat ⟨?_, rfl⟩
                rw [decide_eq_true hu0, Bool.true_and]
              · have hu0 : ¬ 0 < u := by have := of_decide_eq_false hc; omega
                exact ⟨by rw [decide_eq_false hu0, Bool.false_and], rfl⟩
            · rintro h5 rfl
              refine ifB_of (fun hcd => ?_) (fun hcd => ?_)
              · rw [Bool.and_eq_true, decide_eq_true_eq] at hcd
                refine partEq_spec o5 hw1 hw2 (by omega) (by omega) fun h6 o6 bt6 => ?_
                obtain ⟨r1, r2, r3, r4, r5⟩ := Sort.round_eq (lt := ltN) swoN (Sort.partitionEqual_holds ltN) (d3 := e3) (d4 := (Sort.partitionEqual ltN e3 u v w).2) (mid := (Sort.partitionEqual ltN e3 u v w).1) hcd.1 hw1 hw2 (by omega) B5 (by simpa using hcd.2) rfl
                refine ⟨⟨_, v, _, rfl, rfl, by omega, r2, hvb, o6, by rw [r3, s5, z1], r4, but_trans bt5 bt6, fun R g1 g2 => ?_⟩, (show ((v : Int) - (((Sort.partitionEqual ltN e3 u v w).1 : Nat) : Int)).toNat < ((v : Int) - (u : Int)).toNat by omega)⟩
                obtain ⟨g3, g4⟩ := r5 R g1 g2
                exact fin R (Sort.permIn_trans _ _ _ u v p5 g3) g4
              · refine part_spec o5 hw1 hw2 (by omega) (by omega) fun h6 o6 bt6 => ?_
                have hx : Sort.partition ltN e3 u v w = ((Sort.partition ltN e3 u v w).1, (Sort.partition ltN e3 u v w).2.1, (Sort.partition ltN e3 u v w).2.2) := rfl
                obtain ⟨r1, r2, r3, r4, r5, r6, r7⟩ := Sort.round_part (lt := ltN) swoN (Sort.partition_holds ltN) (d3 := e3) (pivot := w) hw1 hw2 (by omega) B5 hx
                generalize (Sort.partition ltN e3 u v w).1 = mid at *
                generalize (Sort.partition ltN e3 u v w).2.1 = ap at *
                generalize (Sort.partition ltN e3 u v w).2.2 = d4 at *
                refine ⟨by decide, ?_⟩
                have wm : IntKind.wrap .i64 ((mid : Int) + (1 : Int)) = ((mid + 1 : Nat) : Int) := by rw [wi (by omega) (by omega)]; omega
                rw [wm]
                have bt6' := but_trans bt5 bt6
                refine ifB_of (fun hc => ?_) (fun hc => ?_)
                · refine ih (by omega) o6 r1 (by omega) (by omega) r4 fun h7 L o7 q1 q2 bt7 => ?_
                  obtain ⟨t1, t2⟩ := r6 L q1 q2
                  refine ⟨⟨mid + 1, v, L, rfl, rfl, by omega, by omega, hvb, o7, by rw [q1.1, r3, s5, z1], t1, but_trans bt6' bt7, fun R g1 g2 => ?_⟩, (show ((v : Int) - ((mid + 1 : Nat) : Int)).toNat < ((v : Int) - (u : Int)).toNat by omega)⟩
                  obtain ⟨g3, g4⟩ := t2 R g1 g2
                  exact fin R (Sort.permIn_trans _ _ _ u v p5 g3) g4
                · refine ih (by omega) o6 (by omega) (by omega) (by omega) r5 fun h7 L o7 q1 q2 bt7 => ?_
                  obtain ⟨t1, t2⟩ := r7 L q1 q2
                  refine ⟨⟨u, mid, L, rfl, rfl, hau, r1, by omega, o7, by rw [q1.1, r3, s5, z1], t1, but_trans bt6' bt7, fun R g1 g2 => ?_⟩, (show ((mid : Int) - (u : Int)).toNat < ((v : Int) - (u : Int)).toNat by omega)⟩
                  obtain ⟨g3, g4⟩ := t2 R g1 g2
                  exact fin R (Sort.permIn_trans _ _ _ u v p5 g3) g4
theorem sort_spec {B : Nat} {h : Heap} {s : Sl} {xs : List Nat} {Q : PP} (ho : Own B 30 1 enc64 h s xs) (hsz : xs.length < 2305843009213693952)
    (hQ : ∀ h', Own B 30 1 enc64 h' s (M.sortU xs) → But s h h' → Q h') : slices_Sort_uint64_uint64.C s Q h := by
  apply slices_Sort_uint64_uint64.ok
  unfold slices_Sort_uint64_uint64.F
  have hlen := ho.len
  rw [wu (by omega) (by omega)]
  refine len_spec (by omega) ?_
  rw [hlen]
  have ho' : OwnA B h s xs.toArray := ho
  refine pdq_spec (xs.length + 1) (a := 0) (b := xs.length) (by omega) ho' (by omega) (by simp) (by simpa using hsz) (.inl rfl) fun h' R oR pR sR bt => ?_
  have hz : R.size = xs.length := by have := pR.1; simpa using this
  have hperm : R.toList.Perm xs := by
    have := pR.2.2
    have e1 : (R.extract 0 xs.length).toList = R.toList := by rw [← hz]; simp
    have e2 : (xs.toArray.extract 0 xs.length).toList = xs := by simp
    rw [e1, e2] at this
    exact this
  have hsort : R.toList.Pairwise (· ≤ ·) := by
    rw [List.pairwise_iff_getElem]
    intro i j hi hj hij
    have hi' : i < R.size := by simpa using hi
    have hj' : j < R.size := by simpa using hj
    have := sR i j (by omega) hij (by omega)
    rw [getElem!_pos R i hi', getElem!_pos R j hj'] at this
    simp only [Array.getElem_toList]
    unfold ltN at this
    have := of_decide_eq_false this
    omega
  have := M.sortU_eq hperm hsort
  rw [← this] at hQ
  exact hQ h' oR bt
end Go.Proofs.W
end

/- Layer 7's law: arguments are opened. -/
import Derived.Test.YtemfgkhholobgaaGreatDoorTC
import Derived.Deep.Slices
import Derived.ChangeArms
set_option maxRecDepth 100000
set_option linter.unusedVariables false
namespace Go.Proofs.W
open Go Go.Shal Go.Proofs Go.M
theorem wf_int {k : IntKind} {n : Int} (h : (Lit.int k n).wf = true) : k.min ≤ n ∧ n ≤ k.max := by
  simpa [Lit.wf] using h
theorem wf_u8 {n : Int} (h : (Lit.int .u8 n).wf = true) : ∃ m : Nat, n = (m : Int) ∧ m < 256 := by
  obtain ⟨h1, h2⟩ := wf_int h
  have h1 : 0 ≤ n := h1
  have h2 : n ≤ 255 := h2
  exact ⟨n.toNat, by omega, by omega⟩
theorem wf_u32 {n : Int} (h : (Lit.int .u32 n).wf = true) : ∃ m : Nat, n = (m : Int) ∧ m < 4294967296 := by
  obtain ⟨h1, h2⟩ := wf_int h
  have h1 : 0 ≤ n := h1
  have h2 : n ≤ 4294967295 := h2
  exact ⟨n.toNat, by omega, by omega⟩
theorem wf_u64 {n : Int} (h : (Lit.int .u64 n).wf = true) : ∃ m : Nat, n = (m : Int) ∧ m < 18446744073709551616 := by
  obtain ⟨h1, h2⟩ := wf_int h
  have h1 : 0 ≤ n := h1
  have h2 : n ≤ 18446744073709551615 := h2
  exact ⟨n.toNat, by omega, by omega⟩
theorem wf_i64 {n : Int} (h : (Lit.int .i64 n).wf = true) : -9223372036854775808 ≤ n ∧ n < 9223372036854775808 := by
  obtain ⟨h1, h2⟩ := wf_int h
  have h1 : -9223372036854775808 ≤ n := h1
  have h2 : n ≤ 9223372036854775807 := h2
  omega
section
variable {H : Type} {enc : TypeId × Value → H} {w : World} {base : Nat} {spare : Nat → Bool} {held : Bool} {P : Program}
theorem cells_flat {α : Type} {k : Nat} {e : α → List Value} (hk : ∀ x, (e x).length = k) {h : Heap} {a : Addr} : ∀ (xs : List α) (o : Nat), (∀ (i : Nat) (x : α), xs[i]? = some x → ∀ (r : Nat) v, (e x)[r]? = some v → hcell h (a.add (o + (i * k + r))) = some v) →
    ∀ (j : Nat) v, (xs.flatMap e)[j]? = some v → hcell h (a.add (o + j)) = some v
  | [], o, _, j, v, hj => by simp at hj
  | x :: xs, o, hx, j, v, hj => by
    rw [List.flatMap_cons] at hj
    by_cases hjk : j < k
    · rw [List.getElem?_append_left (by rw [hk]; exact hjk)] at hj
      have := hx 0 x rfl j v hj
      rw [Nat.zero_mul, Nat.zero_add] at this
      exact this
    · rw [List.getElem?_append_right (by rw [hk]; omega), hk] at hj
      have := cells_flat hk xs (o + k) (fun i y hy r u hu => by
        have := hx (i + 1) y (by simpa using hy) r u hu
        rw [Nat.succ_mul] at this
        rw [show o + k + (i * k + r) = o + (i * k + k + r) by omega]
        exact this) (j - k) v hj
      rw [show o + k + (j - k) = o + j by omega] at this
      exact this
theorem open_view {α : Type} {t e T k fuel : Nat} {cs : List Value} {x : DataW H × List MemPlace} {ev : α → List Value} {good : α → Prop} (ht : P.underlying t = some (.slice e)) (hk : P.cellsOf e = k) (hk0 : 0 < k) (hl : ∀ x, (ev x).length = k)
    (hel : ∀ n cs y, DataW.trod enc P w base spare held n e cs = some y → ∃ x, cs = ev x ∧ good x) (h : DataW.trod enc P w base spare held fuel t cs = some x) :
    ∃ (s : Sl) (xs : List α), cs = [.slice s.p s.len s.cap] ∧ View w.heap.size T k ev w.heap s xs ∧ ∀ x ∈ xs, good x := by
  rcases Deep.open_slice ht h with ⟨rfl, _⟩ | ⟨a, len, cap, m, n, D, Pl, rfl, _, hlc, _, hm, _, hx⟩
  · exact ⟨⟨none, 0, 0⟩, [], rfl, ⟨Sees.nil _ _ _ _, fun hne => absurd rfl hne⟩, by simp⟩
  · have hlm : len ≤ m := by rw [hm]; split <;> omega
    have key : ∀ i : Fin len, ∃ x, w.cells? base (a.add (i * k)) k = some (ev x) ∧ good x := by
      intro i
      obtain ⟨cs', h1, h2⟩ := hx i.1 (by have := i.2; omega)
      obtain ⟨x, rfl, hg⟩ := hel _ _ _ h2
      rw [hk] at h1
      exact ⟨x, h1, hg⟩
    obtain ⟨f, kf⟩ : ∃ f : Fin len → α, ∀ i : Fin len, w.cells? base (a.add (i * k)) k = some (ev (f i)) ∧ good (f i) := ⟨fun i => Classical.choose (key i), fun i => Classical.choose_spec (key i)⟩
    refine ⟨⟨some a, len, cap⟩, List.ofFn f, rfl, ⟨⟨by simp, ⟨?_, ?_⟩, fun hp => by cases hp⟩, fun hne b hb => ?_⟩, fun x hx' => ?_⟩
    · rw [flatMap_length hl, List.length_ofFn]
    · intro j v hj
      have := cells_flat hl (h := w.heap) (a := a) (List.ofFn f) 0 (fun i x hi r u hu => ?_) j v hj
      · rw [Nat.zero_add] at this; exact this
      · rw [Nat.zero_add]
        have hil : i < len := by have := (List.getElem?_eq_some_iff.1 hi).1; simpa using this
        have hfx : f ⟨i, hil⟩ = x := by
          rw [List.getElem?_ofFn] at hi
          simpa [hil] using hi
        obtain ⟨k1, _⟩ := kf ⟨i, hil⟩
        rw [hfx] at k1
        obtain ⟨_, _, hc⟩ := World.cells?_some k1
        have hr : r < k := by have := (List.getElem?_eq_some_iff.1 hu).1; rw [hl] at this; exact this
        have := hc r hr
        rw [hu, Shal.add_add] at this
        exact this
    · cases hb
      left
      have hlen : 0 < len := by
        rcases Nat.eq_zero_or_pos len with h0 | h0
        · subst h0; exact absurd (by simp) hne
        · exact h0
      obtain ⟨k1, _⟩ := kf ⟨0, hlen⟩
      obtain ⟨_, hcl, hc⟩ := World.cells?_some k1
      have h0 := hc 0 hk0
      have hex : (ev (f ⟨0, hlen⟩))[0]? = some ((ev (f ⟨0, hlen⟩))[0]'(by omega)) := List.getElem?_eq_getElem (by omega)
      rw [hex] at h0
      have hlt := hcell_lt (h := w.heap) h0
      rw [Shal.add_add] at hlt
      have : ((a.add (0 * k + 0)).block) = a.block := by unfold Addr.add; split <;> rfl
      rw [← this]
      exact hlt
    · obtain ⟨i, rfl⟩ := List.mem_ofFn.1 hx'
      exact (kf i).2
theorem open_fields {t fuel : Nat} {fs : Array Field} {cs : List Value} {x : DataW H × List MemPlace} (ht : P.underlying t = some (.struct fs)) (h : DataW.trod enc P w base spare held fuel t cs = some x) :
    cs.length = P.cellsOf t ∧ ∀ (i ty off : Nat), (fs[i]?).map (fun f => (f.type, f.offset)) = some (ty, off) → ∃ n y, DataW.trod enc P w base spare held n ty ((cs.drop off).take (P.cellsOf ty)) = some y := by
  obtain ⟨xs, n, _, _, hl, hxl, hf⟩ := DataW.trod_struct ht h
  refine ⟨hl, fun i ty off hif => ?_⟩
  obtain ⟨f, hf1, hf2⟩ := Option.map_eq_some_iff.1 hif
  cases hf2
  have hi : i < xs.length := by
    rw [hxl]
    exact (Array.getElem?_eq_some_iff.1 hf1).1
  have := hf i f hf1
  rw [List.getElem?_eq_getElem hi] at this
  exact ⟨n, _, this⟩
end
section
variable {H : Type} {enc : TypeId × Value → H} {w : World} {base : Nat} {spare : Nat → Bool} {held : Bool}
theorem open_op (n : Nat) (cs : List Value) (y : DataW H × List MemPlace) (h : DataW.trod enc Tryz.prog w base spare held n 124 cs = some y) : ∃ o : OpV, cs = encO o ∧ True := by
  obtain ⟨hl, hf⟩ := open_fields Tryz.underlying124 h
  have c124 : Tryz.prog.cellsOf 124 = 3 := by kernel_rfl
  have c9 : Tryz.prog.cellsOf 9 = 1 := by kernel_rfl
  have c4 : Tryz.prog.cellsOf 4 = 1 := by kernel_rfl
  rw [c124] at hl
  match cs, hl with
  | [v0, v1, v2], _ =>
    obtain ⟨_, _, g0⟩ := hf 0 9 0 rfl
    obtain ⟨_, _, g1⟩ := hf 1 9 1 rfl
    obtain ⟨_, _, g2⟩ := hf 2 4 2 rfl
    obtain ⟨s0, e0, _, _⟩ := DataW.trod_string Tryz.underlying9 g0
    obtain ⟨s1, e1, _, _⟩ := DataW.trod_string Tryz.underlying9 g1
    obtain ⟨b2, e2, _⟩ := DataW.trod_bool Tryz.underlying4 g2
    rw [c9] at e0 e1
    rw [c4] at e2
    simp at e0 e1 e2
    subst e0 e1 e2
    exact ⟨⟨s0.data.toList, s1.data.toList, b2⟩, rfl, trivial⟩
theorem open_spot (n : Nat) (cs : List Value) (y : DataW H × List MemPlace) (h : DataW.trod enc Tryz.prog w base spare held n 268 cs = some y) : ∃ p : Int × Nat, cs = encP p ∧ (-9223372036854775808 ≤ p.1 ∧ p.1 < 9223372036854775808 ∧ p.2 < 4294967296) := by
  obtain ⟨hl, hf⟩ := open_fields Tryz.underlying268 h
  have c268 : Tryz.prog.cellsOf 268 = 2 := by kernel_rfl
  have c3 : Tryz.prog.cellsOf 3 = 1 := by kernel_rfl
  have c96 : Tryz.prog.cellsOf 96 = 1 := by kernel_rfl
  rw [c268] at hl
  match cs, hl with
  | [v0, v1], _ =>
    obtain ⟨_, _, g0⟩ := hf 0 3 0 rfl
    obtain ⟨_, _, g1⟩ := hf 1 96 1 rfl
    obtain ⟨n0, e0, _, w0⟩ := DataW.trod_int Tryz.underlying3 g0
    obtain ⟨n1, e1, _, w1⟩ := DataW.trod_int Tryz.underlying96 g1
    rw [c3] at e0
    rw [c96] at e1
    simp at e0 e1
    subst e0 e1
    obtain ⟨m, rfl, hm⟩ := wf_u32 w1
    have := wf_i64 w0
    exact ⟨(n0, m), rfl, this.1, this.2, hm⟩
theorem open_i64 (n : Nat) (cs : List Value) (y : DataW H × List MemPlace) (h : DataW.trod enc Tryz.prog w base spare held n 3 cs = some y) : ∃ p : Int, cs = [encI p] ∧ (-9223372036854775808 ≤ p ∧ p < 9223372036854775808) := by
  obtain ⟨n0, e0, _, w0⟩ := DataW.trod_int Tryz.underlying3 h
  exact ⟨n0, e0, wf_i64 w0⟩
theorem open_crash (n : Nat) (cs : List Value) (y : DataW H × List MemPlace) (h : DataW.trod enc Tryz.prog w base spare held n 42 cs = some y) :
    ∃ (c : CrashV) (ks ss : Sl), cs = [.int .i64 c.names, .slice ks.p ks.len ks.cap, .slice ss.p ss.len ss.cap] ∧ CrashAt w.heap.size w.heap c ks ss := by
  obtain ⟨hl, hf⟩ := open_fields Tryz.underlying42 h
  have c42 : Tryz.prog.cellsOf 42 = 3 := by kernel_rfl
  have c3 : Tryz.prog.cellsOf 3 = 1 := by kernel_rfl
  have c39 : Tryz.prog.cellsOf 39 = 1 := by kernel_rfl
  have c40 : Tryz.prog.cellsOf 40 = 1 := by kernel_rfl
  have c268 : Tryz.prog.cellsOf 268 = 2 := by kernel_rfl
  rw [c42] at hl
  match cs, hl with
  | [v0, v1, v2], _ =>
    obtain ⟨_, _, g0⟩ := hf 0 3 0 rfl
    obtain ⟨_, _, g1⟩ := hf 1 39 1 rfl
    obtain ⟨_, _, g2⟩ := hf 2 40 2 rfl
    obtain ⟨n0, e0, _, w0⟩ := DataW.trod_int Tryz.underlying3 g0
    obtain ⟨ks, keep, e1, v1', k1⟩ := open_view (T := 3) (ev := fun n => [encI n]) Tryz.underlying39 c3 (by omega) (fun _ => rfl) open_i64 g1
    obtain ⟨ss, spoil, e2, v2', k2⟩ := open_view (T := 268) (ev := encP) Tryz.underlying40 c268 (by omega) (fun _ => rfl) open_spot g2
    rw [c3] at e0
    rw [c39] at e1
    rw [c40] at e2
    simp at e0 e1 e2
    subst e0 e1 e2
    exact ⟨⟨n0, keep, spoil⟩, ks, ss, rfl, v1', v2', k1, k2⟩
theorem open_act (n : Nat) (cs : List Value) (y : DataW H × List MemPlace) (h : DataW.trod enc Tryz.prog w base spare held n 46 cs = some y) :
    ∃ r : RawA, cs = encRA r ∧ ∃ ops c, ActIs w.heap.size w.heap r ops c := by
  obtain ⟨hl, hf⟩ := open_fields Tryz.underlying46 h
  have c46 : Tryz.prog.cellsOf 46 = 11 := by kernel_rfl
  have c5 : Tryz.prog.cellsOf 5 = 1 := by kernel_rfl
  have c30 : Tryz.prog.cellsOf 30 = 1 := by kernel_rfl
  have c38 : Tryz.prog.cellsOf 38 = 2 := by kernel_rfl
  have c44 : Tryz.prog.cellsOf 44 = 7 := by kernel_rfl
  have c36 : Tryz.prog.cellsOf 36 = 1 := by kernel_rfl
  have c9 : Tryz.prog.cellsOf 9 = 1 := by kernel_rfl
  have c3 : Tryz.prog.cellsOf 3 = 1 := by kernel_rfl
  have c42 : Tryz.prog.cellsOf 42 = 3 := by kernel_rfl
  have c124 : Tryz.prog.cellsOf 124 = 3 := by kernel_rfl
  rw [c46] at hl
  match cs, hl with
  | [v0, v1, v2, v3, v4, v5, v6, v7, v8, v9, v10], _ =>
    obtain ⟨_, _, g0⟩ := hf 0 5 0 rfl
    obtain ⟨_, _, g1⟩ := hf 1 30 1 rfl
    obtain ⟨_, _, g2⟩ := hf 2 38 2 rfl
    obtain ⟨_, _, g3⟩ := hf 3 44 4 rfl
    obtain ⟨n0, e0, _, w0⟩ := DataW.trod_int Tryz.underlying5 g0
    obtain ⟨n1, e1, _, w1⟩ := DataW.trod_int Tryz.underlying30 g1
    obtain ⟨_, hf2⟩ := open_fields Tryz.underlying38 g2
    obtain ⟨_, hf3⟩ := open_fields Tryz.underlying44 g3
    obtain ⟨_, _, b0⟩ := hf2 0 30 0 rfl
    obtain ⟨_, _, b1⟩ := hf2 1 36 1 rfl
    obtain ⟨_, _, d0⟩ := hf3 0 5 0 rfl
    obtain ⟨_, _, d1⟩ := hf3 1 9 1 rfl
    obtain ⟨_, _, d2⟩ := hf3 2 9 2 rfl
    obtain ⟨_, _, d3⟩ := hf3 3 3 3 rfl
    obtain ⟨_, _, d4⟩ := hf3 4 42 4 rfl
    obtain ⟨n2, e2, _, w2⟩ := DataW.trod_int Tryz.underlying30 b0
    obtain ⟨os, ops, e3, vo, _⟩ := open_view (T := 124) (ev := encO) Tryz.underlying36 c124 (by omega) encO_len open_op b1
    obtain ⟨n4, e4, _, w4⟩ := DataW.trod_int Tryz.underlying5 d0
    obtain ⟨s5, e5, _, _⟩ := DataW.trod_string Tryz.underlying9 d1
    obtain ⟨s6, e6, _, _⟩ := DataW.trod_string Tryz.underlying9 d2
    obtain ⟨n7, e7, _, w7⟩ := DataW.trod_int Tryz.underlying3 d3
    obtain ⟨c, ks, ss, e8, hc⟩ := open_crash _ _ _ d4
    simp only [c5, c30, c38, c44, c36, c9, c3, c42] at e0 e1 e2 e3 e4 e5 e6 e7 e8
    simp at e0 e1 e2 e3 e4 e5 e6 e7 e8
    obtain ⟨e8, e9, e10⟩ := e8
    subst e0 e1 e2 e3 e4 e5 e6 e7 e8 e9 e10
    obtain ⟨m0, rfl, h0⟩ := wf_u8 w0
    obtain ⟨m1, rfl, h1⟩ := wf_u64 w1
    obtain ⟨m2, rfl, h2⟩ := wf_u64 w2
    obtain ⟨m4, rfl, h4⟩ := wf_u8 w4
    exact ⟨⟨m0, m1, m2, os, m4, s5.data.toList, s6.data.toList, n7, c.names, ks, ss⟩, rfl, ops, c, h1, h2, vo, wf_i64 w7, hc, rfl⟩
end
end Go.Proofs.W

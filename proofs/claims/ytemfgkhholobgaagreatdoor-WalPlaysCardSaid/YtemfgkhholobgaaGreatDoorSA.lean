/- strings.Builder's copyCheck, walked. The library's contracts, as rules of typed calls. -/
import Derived.Test.YtemfgkhholobgaaGreatDoorProg
import Derived.Lib.Strings
import Derived.Lib.Slices
import Derived.Lib.Walk
import Derived.Lib.Builder
import Derived.Lib.AppendStr
import Derived.Lib.UnsafeStr
import Derived.Lib.MakeNoZero
import Derived.WalkKit
import Derived.Laws.Externs
import Derived.Laws.IdiomCopy
import Derived.Test.YtemfgkhholobgaaGreatDoorCE
import Derived.Test.YtemfgkhholobgaaGreatDoorMA
import Derived.Test.YtemfgkhholobgaaGreatDoorWGA
import Derived.Test.YtemfgkhholobgaaGreatDoorWGB
import Derived.Test.YtemfgkhholobgaaGreatDoorWGD
import Derived.Test.YtemfgkhholobgaaGreatDoorWGE
import Derived.Test.YtemfgkhholobgaaGreatDoorShelf
import Derived.Lib.ItoaMem
import Derived.Lib.ParseIntB
section
set_option linter.unusedVariables false
namespace Go.Proofs.W
open Go Go.Proofs Go.RowKit
set_option maxHeartbeats 1000000 in
set_option maxRecDepth 100000 in
theorem copyCheck_used (b : Nat) (w : World) (h0 : w.cell? ⟨b, 0, none⟩ = some (.pointer (some ⟨b, 0, none⟩))) :
    Calls Tryz.prog 275 #[.pointer (some ⟨b, 0, none⟩)] w fun e w' => e = .returned (.tuple #[]) ∧ w' = w := by
  obtain ⟨j, hj, _⟩ := Option.map_eq_some_iff.1 (show (Tryz.prog.info? 251).map (·.size) = some 2 by kernel_rfl)
  go_enter Tryz.func275, Tryz.ntmps275
  go_wp2
  rw [Lib.run_neq_ptr_same w _ Tryz.underlying249 hj]
  go_wp2
  go_end0
  exact ⟨rfl, rfl⟩
set_option maxHeartbeats 1000000 in
set_option maxRecDepth 100000 in
theorem copyCheck_fresh (b : Nat) (w : World) (h0 : w.cell? ⟨b, 0, none⟩ = some (.pointer none)) (hsh : w.shape? b = some (251, 2)) (hfz : w.frozen? ⟨b, 0, none⟩ = false) :
    Calls Tryz.prog 275 #[.pointer (some ⟨b, 0, none⟩)] w fun e w' => e = .returned (.tuple #[]) ∧ w' = w.setCell ⟨b, 0, none⟩ (.pointer (some ⟨b, 0, none⟩)) := by
  obtain ⟨j, hj, hjs⟩ := Option.map_eq_some_iff.1 (show (Tryz.prog.info? 251).map (·.size) = some 2 by kernel_rfl)
  go_enter Tryz.func275, Tryz.ntmps275
  go_wp2
  rw [Lib.run_to_unsafe w ⟨b, 0, none⟩ Tryz.underlying249 Tryz.underlying395 hj (by rw [hjs]; decide) hsh (Nat.zero_lt_succ 1)]
  simp only [Result.andThen]
  rw [Oper.upon_value]
  go_wp2
  rw [run_callFunc_extern Tryz.func340 (by kernel_rfl) (by kernel_rfl) (by kernel_rfl) (e := Extern.AbiNoEscape.same) (by kernel_rfl)]
  rw [Lib.run_noEscape]
  simp only [Result.andThen]
  rw [Oper.upon_value]
  go_wp2
  rw [Lib.run_from_unsafe w ⟨b, 0, none⟩ Tryz.underlying395 Tryz.underlying249 hj hsh (by kernel_rfl)]
  simp only [Result.andThen]
  rw [Oper.upon_value]
  go_wp2
  go_end0
  exact ⟨rfl, rfl⟩
end Go.Proofs.W
end
section
set_option maxRecDepth 100000
set_option linter.unusedVariables false
namespace Go.Proofs.W
open Go Go.Shal Go.Proofs Go.RowKit
theorem same_below {B : Nat} {w w' : World} (b : Below B w w') : Same w w' := ⟨b.tape, b.os, b.output⟩
theorem up_below {B : Nat} {w w' : World} (b : Below B w w') : Up B w.heap w'.heap :=
  ⟨b.size, fun n o hn hm => by
    rcases hm with hm | hm
    · rw [b.block n hm]; exact hn
    · cases hm⟩
/-! ### Tables -/
def crcTab : List Int := [0, 498536548, 997073096, 651767980, 1994146192, 1802195444, 1303535960, 1342533948, 3988292384, 4027552580, 3604390888, 3412177804, 2607071920, 2262029012, 2685067896, 3183342108]
structure Tabs (h : Heap) : Prop where
  size : 4 ≤ h.size
  pow10 : ∀ w : World, w.heap = h → Lib.TabIs Tryz.prog w "internal/strconv.uint64pow10" .u64 Lib.pow10Tab
  crc : ∀ i v, crcTab[i]? = some v → hcell h ⟨1, i, none⟩ = some (.int .u32 v)
  errS : ∃ ev, hcell h ⟨2, 0, none⟩ = some ev ∧ (ev = .nilIface ∨ ∃ te pe, ev = .iface te pe)
  errR : ∃ ev, hcell h ⟨3, 0, none⟩ = some ev ∧ (ev = .nilIface ∨ ∃ te pe, ev = .iface te pe)
theorem Tabs.keep {B : Nat} {M : Obj → Bool} {h h' : Heap} (t : Tabs h) (hB : 4 ≤ B) (u : Keep B M h h') : Tabs h' := by
  have hc : ∀ a v, a.block < 4 → hcell h a = some v → hcell h' a = some v := fun a v hlt hc => by
    unfold hcell at *
    cases hb : h[a.block]? with
    | none => rw [hb] at hc; cases hc
    | some o => rw [u.at_ _ _ hb (.inl (by omega))]; rw [hb] at hc; exact hc
  refine ⟨Nat.le_trans t.size u.size, fun w hw => ?_, fun i v hv => hc _ _ (by show 1 < 4; omega) (t.crc i v hv), ?_, ?_⟩
  · have := t.pow10 { w with heap := h } rfl
    unfold Lib.TabIs World.var? at *
    have g0 : Tryz.prog.globalNamed "internal/strconv.uint64pow10" = some 0 := by kernel_rfl
    rw [g0] at this ⊢
    simp only [Option.bind_some] at this ⊢
    rw [hw]
    cases hb : h[0]? with
    | none => rw [hb] at this; cases this
    | some o => rw [u.at_ _ _ hb (.inl (by omega))]; rw [hb] at this; exact this
  · obtain ⟨ev, h1, h2⟩ := t.errS
    exact ⟨ev, hc _ _ (by show 2 < 4; omega) h1, h2⟩
  · obtain ⟨ev, h1, h2⟩ := t.errR
    exact ⟨ev, hc _ _ (by show 3 < 4; omega) h1, h2⟩
theorem Tabs.ext {h h' : Heap} (t : Tabs h) (u : Ext h h') : Tabs h' := t.keep (Nat.le_refl 4) (u.keep 4 none_)
/-! ### Numbers -/
theorem len64_spec {h : Heap} {n : Nat} {Q : Int → PP} (hn : n < 18446744073709551616) (hQ : Q (Lib.bitLen n : Int) h) : math_bits_Len64.C (n : Int) Q h :=
  callT_of fun w hw => (Tryz.bits_Len64 (n : Int) w (by omega) (by omega)).mono fun e w' ⟨h1, h2⟩ => by
    subst h2
    refine ⟨Same.refl _, (((Lib.bitLen n : Nat) : Int), ()), ?_, by rw [hw]; exact hQ⟩
    rw [h1]
    rfl
theorem small_spec {h : Heap} {n : Nat} {Q : Bytes → PP} (hn : n < 100) (hQ : Q (Lib.decDigits n) h) : internal_strconv_small.C (n : Int) Q h :=
  callT_of fun w hw => (Tryz.internal_strconv_small n hn w).mono fun e w' ⟨h1, h2⟩ => by
    subst h2
    refine ⟨Same.refl _, (Lib.decDigits n, ()), ?_, by rw [hw]; exact hQ⟩
    rw [h1]
    rfl
theorem numDigits_spec {h : Heap} {n : Nat} {Q : Int → PP} (ht : Tabs h) (h1 : 1 ≤ n) (hn : n < 18446744073709551616) (hQ : Q (Lib.nDigits n : Int) h) : internal_strconv_numDigits.C (n : Int) Q h :=
  callT_of fun w hw => (Tryz.internal_strconv_numDigits n h1 hn w (ht.pow10 w hw)).mono fun e w' ⟨h1, h2⟩ => by
    subst h2
    refine ⟨Same.refl _, (((Lib.nDigits n : Nat) : Int), ()), ?_, by rw [hw]; exact hQ⟩
    rw [h1]
    rfl
/-! ### Texts -/
theorem repeat_spec {h : Heap} {l : Bytes} {c : Nat} {Q : Bytes → PP} (hc : c ≤ 9223372036854775807) (hl : l.length * c ≤ 140737488355328) (hQ : ∀ h', Ext h h' → Q (Lib.repeatL l c) h') : strings_Repeat.C l (c : Int) Q h :=
  callT_of fun w hw => (Tryz.strings_Repeat (bs l) c w hc hl).mono fun e w' ⟨h1, h2⟩ => by
    subst hw
    exact ⟨same_below h2, (Lib.repeatL l c, ()), by rw [h1]; rfl, hQ _ (up_below h2).ext⟩
theorem cutPrefix_spec {h : Heap} {l p : Bytes} {Q : Bytes → Bool → PP} (hQ : Q (Lib.trimPrefix l p) (Lib.hasPrefix l p) h) : strings_CutPrefix.C l p Q h :=
  callT_of fun w hw => (Tryz.strings_CutPrefix (bs l) (bs p) w).mono fun e w' ⟨h1, h2⟩ => by
    subst h2
    refine ⟨Same.refl _, (Lib.trimPrefix l p, Lib.hasPrefix l p, ()), ?_, by rw [hw]; exact hQ⟩
    rw [h1]
    rfl
theorem bytesWorld_ext (w : World) (s : ByteArray) : Same w (Lib.bytesWorld w 5 s) ∧ Ext w.heap (Lib.bytesWorld w 5 s).heap := by
  refine ⟨⟨rfl, rfl, rfl⟩, ?_⟩
  unfold Lib.bytesWorld World.freeze World.alloc World.drew
  refine ⟨by simp, fun b o hb _ => ?_⟩
  have hlt := lt_of_some hb
  show ((w.heap.push (.cells (Lib.bytesCells w 5 s) 5)).modify w.heap.size _)[b]? = some o
  rw [Array.getElem?_modify, if_neg (by omega), Array.getElem?_push, if_neg (by omega)]
  exact hb
theorem parseUint_spec {h : Heap} {l : Bytes} {Q : Int → Value → PP} (ht : Tabs h) (hl : l.length ≤ 281474976710656)
    (hok : ∀ (u : Nat) h', Lib.parseUintB 64 l = .ok u → Ext h h' → Q (u : Int) .nilIface h')
    (herr : ∀ (n : Nat) T v h', (∀ u, Lib.parseUintB 64 l ≠ .ok u) → n < 18446744073709551616 → Ext h h' → Q (n : Int) (.iface T v) h') : strconv_ParseUint.C l (10 : Int) (64 : Int) Q h := by
  refine callT_of fun w hw => ?_
  subst hw
  cases hp : Lib.parseUintB 64 l with
  | ok u =>
    refine (Tryz.strconv_ParseUint_10_at64_ok (bs l) (by show l.length ≤ _; omega) u hp w).mono fun e w' ⟨h1, h2⟩ => ?_
    have h3 : Same w w' ∧ Ext w.heap w'.heap := by
      rcases h2 with rfl | rfl
      · exact ⟨Same.refl _, Ext.refl _⟩
      · exact bytesWorld_ext _ _
    refine ⟨h3.1, ((u : Int), .nilIface, ()), ?_, hok u _ hp h3.2⟩
    rw [h1]
    rfl
  | range =>
    obtain ⟨ev, e1, e2⟩ := ht.errR
    refine (Tryz.strconv_ParseUint_10_at64_range (bs l) hl hp ev w e1 e2).mono fun e w' ⟨N, h1, _, _, h2⟩ => ?_
    refine ⟨same_below h2, (((18446744073709551615 : Nat) : Int), .iface 358 (.pointer (some ⟨N, 0, none⟩)), ()), ?_, herr _ _ _ _ (by rw [hp]; intro u e; cases e) (by omega) (up_below h2).ext⟩
    rw [h1]
    rfl
  | _ =>
    obtain ⟨ev, e1, e2⟩ := ht.errS
    refine (Any.strconv_ParseUint_10_at64_syntax Tryz.laysPu14 (bs l) hl hp ev w e1 e2).mono fun e w' ⟨N, h1, _, _, h2⟩ => ?_
    refine ⟨same_below h2, (((0 : Nat) : Int), .iface 358 (.pointer (some ⟨N, 0, none⟩)), ()), ?_, herr 0 _ _ _ (by rw [hp]; intro u e; cases e) (by omega) (up_below h2).ext⟩
    rw [h1]
    rfl
/-! ### The builder -/
/-- Block b is a builder that holds l; its memory lies from B on. -/
def Bld (B b : Nat) (l : Bytes) : PP := fun h => ∃ (p : Option Addr) (s : Sl), h[b]? = some (.cells #[.pointer p, .slice s.p s.len s.cap] 251 (0, 0)) ∧ (p = none ∨ p = some ⟨b, 0, none⟩) ∧ B ≤ b ∧
  Own B 5 1 encB h s l ∧ s.p.map (·.block) ≠ some b
theorem Bld.is {B b : Nat} {l : Bytes} {w : World} (hb : Bld B b l w.heap) : Lib.IsBuilder 251 5 B b (Lib.byteCells l) w := by
  obtain ⟨p, s, h1, h2, h3, h4, h5⟩ := hb
  have bl : (Lib.byteCells l).length = l.length := by simp [Lib.byteCells]
  have be : l.flatMap encB = Lib.byteCells l := by unfold encB; rw [flat_single]; rfl
  have key : Lib.BuilderAt 251 5 B b (.pointer p) (Lib.byteCells l) w := by
    refine ⟨h3, _, h1, ⟨by simp, ?_⟩, ?_⟩
    · have hr := h4.row
      have hlen := h4.len
      rw [bl]
      cases hp : s.p with
      | none =>
        rw [hp] at hr
        left
        have : l.length = 0 := by rw [hr.1]; rfl
        rw [hlen, hr.2, this]
        exact ⟨rfl, rfl⟩
      | some a =>
        obtain ⟨g, o, sp⟩ := a
        rw [hp] at hr
        obtain ⟨e1, e2, e3, cs, e4, e5, e6, e7, e8⟩ := hr
        simp only at e1 e2 e3 e4
        subst e1 e2
        right
        exact ⟨g, s.cap, cs, by rw [hlen], e3, e4, e6, e8, e5, by rw [e7, be]⟩
    · cases hp : s.p with
      | none => simp [Value.ownBlock]
      | some a => rw [hp] at h5; simpa [Value.ownBlock] using h5
  rcases h2 with rfl | rfl
  · exact .inl key
  · exact .inr key
theorem Bld.fresh (B : Nat) (h : Heap) (hB : B ≤ h.size) : Bld B h.size [] (h.push (.cells #[.pointer none, .slice none 0 0] 251 (0, 0))) :=
  ⟨none, ⟨none, 0, 0⟩, getElem?_push_new _ _, .inl rfl, hB, Own.nil _ _ _ _ _, by simp⟩
theorem Bld.keep {B B' b : Nat} {M : Obj → Bool} {l : Bytes} {h h' : Heap} (hb : Bld B b l h) (k : Keep B' M h h') (h1 : ∀ cs, M (.cells cs 251 (0, 0)) = false) (h2 : ∀ cs, M (.cells cs 5 (0, 0)) = false) : Bld B b l h' := by
  obtain ⟨p, s, e1, e2, e3, e4, e5⟩ := hb
  exact ⟨p, s, k.at_ _ _ e1 (.inr (h1 _)), e2, e3, e4.keepM k h2, e5⟩
theorem Bld.ext {B b : Nat} {l : Bytes} {h h' : Heap} (hb : Bld B b l h) (k : Ext h h') : Bld B b l h' := hb.keep k (fun _ => rfl) fun _ => rfl
theorem newP_bld {h : Heap} {K : Addr → PP} (hk : ∀ h', Ext h h' → h'.size = h.size + 1 → Bld h.size h.size [] h' → K ⟨h.size, 0, none⟩ h') : newP 251 [.pointer (none : Option Addr), .slice (none : Option Addr) 0 0] K h :=
  hk _ (Ext.push _ _) (by simp) (Bld.fresh _ _ (Nat.le_refl _))
theorem copyCheck_spec {B b : Nat} {l : Bytes} {h : Heap} {Q : PP} (hb : Bld B b l h) (hQ : ∀ h', Bld B b l h' → Up B h h' → Keep 0 (rowsOf [251, 5]) h h' → Q h') : strings_Builder_copyCheck.C (some ⟨b, 0, none⟩) Q h :=
  callT_of fun w hw => by
    subst hw
    obtain ⟨p, s, e1, e2, e3, e4, e5⟩ := hb
    rcases e2 with rfl | rfl
    · refine (copyCheck_fresh b w (by show hcell _ _ = _; rw [hcell_cells e1]; rfl) (by simp [World.shape?, e1]) (hfrozen_cells e1)).mono fun e w' ⟨h1, h2⟩ => ?_
      subst h2
      refine ⟨⟨rfl, rfl, rfl⟩, (), by rw [h1]; rfl, ?_⟩
      show Q (hset w.heap ⟨b, 0, none⟩ (.pointer (some ⟨b, 0, none⟩)))
      have hk : Up B w.heap (hset w.heap ⟨b, 0, none⟩ (.pointer (some ⟨b, 0, none⟩))) := Keep.hset (a := ⟨b, 0, none⟩) e1 e3 rfl _
      refine hQ _ ⟨some ⟨b, 0, none⟩, s, ?_, .inr rfl, e3, e4.keep fun n cs hn _ hp => ?_, e5⟩ hk ?_
      · rw [hset_at e1]
        rfl
      · rw [hset_other]
        · exact hn
        · rintro rfl
          exact e5 hp
      · exact Keep.hset (a := ⟨b, 0, none⟩) e1 (Nat.zero_le _) rfl _
    · refine (copyCheck_used b w (by show hcell _ _ = _; rw [hcell_cells e1]; rfl)).mono fun e w' ⟨h1, h2⟩ => ?_
      subst h2
      exact ⟨Same.refl _, (), by rw [h1]; rfl, hQ _ ⟨_, s, e1, .inr rfl, e3, e4, e5⟩ (Up.refl _ _) (Keep.refl _ _ _)⟩
theorem write_spec {B b : Nat} {l s : Bytes} {h : Heap} {Q : Int → Value → PP} (hB : B ≤ h.size) (hb : Bld B b l h) (hl : l.length + s.length ≤ 140737488355000)
    (hQ : ∀ n v h', Bld B b (l ++ s) h' → Up B h h' → Keep 0 (rowsOf [251, 5]) h h' → Q n v h') : strings_Builder_WriteString.C (some ⟨b, 0, none⟩) s Q h := by
  apply strings_Builder_WriteString.ok
  unfold strings_Builder_WriteString.F
  refine copyCheck_spec hb fun h1 hb1 u1 k1 => ?_
  obtain ⟨p, t, e1, e2, e3, e4, e5⟩ := hb1
  rw [nilP_some]
  refine ld_of (x := t) (by rw [add_mk, hcell_cells e1]; rfl) ?_
  refine app_str rfl e4 (Nat.le_trans hB u1.size) (by omega) fun t' h2 o1 o2 o3 => ?_
  rw [nilP_some]
  have e1' : h2[b]? = some (.cells #[.pointer p, .slice t.p t.len t.cap] 251 (0, 0)) := o2.2 _ _ e1 e5
  have hne : t'.p.map (·.block) ≠ some b := by
    intro he
    cases hp : t'.p with
    | none => rw [hp] at he; cases he
    | some a =>
      rw [hp] at he
      simp at he
      rcases o3 a hp with h3 | h3
      · rw [h3, he] at e5; exact e5 rfl
      · have := lt_of_some e1
        omega
  refine ⟨⟨⟨_, by rw [add_mk, hcell_cells e1']; rfl⟩, by rw [add_mk]; exact hfrozen_cells e1', trivial⟩, ?_⟩
  rw [add_mk]
  refine hQ _ _ _ ⟨p, t', ?_, e2, e3, o1.keep fun n cs hn _ hp => ?_, hne⟩ ((u1.trans (o2.up e4.low)).trans ?_) ((k1.trans (But.keepT e4 o2 rfl)).trans ?_)
  · rw [hset_at e1']
    rfl
  · rw [hset_other]
    · exact hn
    · rintro rfl
      exact hne hp
  · exact Keep.hset (a := ⟨b, 0 + 1, none⟩) e1' e3 rfl _
  · exact Keep.hset (a := ⟨b, 0 + 1, none⟩) e1' (Nat.zero_le _) rfl _
theorem blen_spec {B b : Nat} {l : Bytes} {h : Heap} {Q : Int → PP} (hb : Bld B b l h) (hQ : Q (l.length : Int) h) : strings_Builder_Len.C (some ⟨b, 0, none⟩) Q h := by
  apply strings_Builder_Len.ok
  unfold strings_Builder_Len.F
  obtain ⟨p, t, e1, e2, e3, e4, e5⟩ := hb
  rw [nilP_some]
  refine ld_of (x := t) (by rw [add_mk, hcell_cells e1]; rfl) ?_
  rw [e4.len]
  exact hQ
theorem string_spec {B b : Nat} {l : Bytes} {h : Heap} {Q : Bytes → PP} (hB : B ≤ h.size) (hb : Bld B b l h) (hQ : ∀ h', Up B h h' → Q l h') : strings_Builder_String.C (some ⟨b, 0, none⟩) Q h :=
  callT_of fun w hw => by
    subst hw
    refine (Tryz.Builder_String_any B b l w hb.is hB).mono fun e w' ⟨h1, h2⟩ => ?_
    exact ⟨same_below h2, (l, ()), by rw [h1]; rfl, hQ _ (up_below h2)⟩
end Go.Proofs.W
end

/- WalPlays: the row and the card. -/
import Derived.Test.YtemfgkhholobgaaGreatDoorTE
import Derived.Test.YtemfgkhholobgaaGreatDoorTD
import Derived.Test.YtemfgkhholobgaaGreatDoorTF
import Derived.Test.YtemfgkhholobgaaGreatDoorTG
import Derived.Test.YtemfgkhholobgaaGreatDoorTH
set_option maxRecDepth 100000
set_option linter.unusedVariables false
namespace Go.Proofs.W
open Go Go.Shal Go.Proofs Go.ChangeShapes Go.WideShapes Go.RowKit
theorem open_err {P : Program} {w : World} {base : Nat} {sp : Nat → Bool} {held : Bool} {H : Type} {enc : TypeId × Value → H} {t fuel : Nat} {ms : Array (String × TypeId)} {cs : List Value} {x : DataW H × List MemPlace} (ht : P.underlying t = some (.interface ms)) (h : DataW.trod enc P w base sp held fuel t cs = some x) :
    ∃ ev, cs = [ev] ∧ (ev = .nilIface ∨ ∃ te pe, ev = .iface te pe) := by
  cases fuel with
  | zero => simp [DataW.trod] at h
  | succ n =>
    unfold DataW.trod at h
    rw [ht] at h
    split at h <;> simp_all
theorem gTab : Tryz.prog.globalNamed "copyhold/cell.table" = some 1 := by kernel_rfl
theorem gPow : Tryz.prog.globalNamed "internal/strconv.uint64pow10" = some 0 := by kernel_rfl
theorem gSyn : Tryz.prog.globalNamed "strconv.ErrSyntax" = some 2 := by kernel_rfl
theorem gRng : Tryz.prog.globalNamed "strconv.ErrRange" = some 3 := by kernel_rfl
theorem tTab : (Tryz.prog.globals[1]?).map (·.type) = some 402 := by kernel_rfl
theorem tPow : (Tryz.prog.globals[0]?).map (·.type) = some 393 := by kernel_rfl
theorem tSyn : (Tryz.prog.globals[2]?).map (·.type) = some 203 := by kernel_rfl
theorem tRng : (Tryz.prog.globals[3]?).map (·.type) = some 203 := by kernel_rfl
theorem var_lt {P : Program} {W : World} {n : String} {g : Nat} {cs : Array Value} (hg : P.globalNamed n = some g) (h : W.var? P n = some cs) : g < W.heap.size := by
  simp only [World.var?, hg, Option.bind_some] at h
  refine Decidable.byContradiction fun hlt => ?_
  rw [Array.getElem?_eq_none (by omega)] at h
  cases h
theorem tabs_of_laid {W : World} (h : laidMetH Tryz.prog YtemfgkhholobgaaGreatDoor.Rows.walPlaysRow.laid W) : Tabs W.heap := by
  rw [MakeChecks.laidMetH_plain _ _ _ (by kernel_rfl)] at h
  obtain ⟨ps, ⟨g0, t0, cs0, f0, p0, q0, hg0, ht0, hv0, hd0, ⟨g1, t1, cs1, f1, p1, q1, hg1, ht1, hv1, hd1, ⟨g2, t2, cs2, f2, p2, q2, hg2, ht2, hv2, hd2, ⟨g3, t3, cs3, f3, p3, q3, hg3, ht3, hv3, hd3, ⟨g4, t4, cs4, f4, p4, q4, hg4, ht4, hv4, hd4, ⟨g5, t5, cs5, f5, p5, q5, hg5, ht5, hv5, hd5, _, _⟩, _⟩, _⟩, _⟩, _⟩, _⟩, _⟩ := h
  obtain rfl := Option.some.inj (gTab.symm.trans hg0)
  obtain rfl := Option.some.inj (gPow.symm.trans hg3)
  obtain rfl := Option.some.inj (gRng.symm.trans hg4)
  obtain rfl := Option.some.inj (gSyn.symm.trans hg5)
  obtain rfl := Option.some.inj (tTab.symm.trans ht0)
  obtain rfl := Option.some.inj (tPow.symm.trans ht3)
  obtain rfl := Option.some.inj (tRng.symm.trans ht4)
  obtain rfl := Option.some.inj (tSyn.symm.trans ht5)
  refine ⟨var_lt gRng hv4, fun w hw => ?_, fun i v hv => ?_, ?_, ?_⟩
  · have hc := Lib.cells_of_tab (zs := Lib.pow10Tab) (k := .u64) Tryz.underlying393 Tryz.underlying30 (by kernel_rfl) (by kernel_rfl) hd3
    unfold Lib.TabIs
    have hv3' : w.var? Tryz.prog "internal/strconv.uint64pow10" = some cs3 := by
      rw [← hv3]
      unfold World.var?
      rw [hw]
    rw [hv3', ← hc]
  · have hc := Lib.cells_of_tab (zs := crcTab) (k := .u32) Tryz.underlying402 Tryz.underlying96 (by kernel_rfl) (by kernel_rfl) hd0
    have := World.var?_cell gTab hv0 i
    have e : cs0[i]? = some (Value.int .u32 v) := by
      rw [← Array.getElem?_toList, hc, List.getElem?_map, hv]
      rfl
    rw [e] at this
    exact this
  · obtain ⟨ev, he, hx⟩ := open_err Tryz.underlying203 hd5
    have := World.var?_cell gSyn hv5 0
    have e : cs5[0]? = some ev := by rw [← Array.getElem?_toList, he]; rfl
    rw [e] at this
    exact ⟨ev, this, hx⟩
  · obtain ⟨ev, he, hx⟩ := open_err Tryz.underlying203 hd4
    have := World.var?_cell gRng hv4 0
    have e : cs4[0]? = some ev := by rw [← Array.getElem?_toList, he]; rfl
    rw [e] at this
    exact ⟨ev, this, hx⟩
theorem below_of {w w' : World} (s : Same w w') (e : Ext w.heap w'.heap) : Below w.heap.size w w' :=
  ⟨s.os, s.tape, s.output, e.size, fun k hk => by
    have h1 : w.heap[k]? = some w.heap[k] := Array.getElem?_eq_getElem hk
    rw [h1]
    exact e.at' h1⟩
theorem lifted (os : Os) (started : os.Started) (H : Type) (enc : TypeId × Value → H) :
    ReturnsInHanded {} Tryz.checked os 3 .any (fun w args => (YtemfgkhholobgaaGreatDoor.Rows.walPlaysSpec.pre enc Tryz.prog Tryz.f3 [] false w args ∧ laidMetH Tryz.prog YtemfgkhholobgaaGreatDoor.Rows.walPlaysRow.laid w) ∧ sizedMet enc Tryz.prog Tryz.f3 (OpenSpec.ofChange YtemfgkhholobgaaGreatDoor.Rows.walPlaysSpec) false w args)
      (YtemfgkhholobgaaGreatDoor.Rows.walPlaysSpec.post enc Tryz.prog Tryz.f3 false true false false) := by
  refine returnsInHanded_of_change_and (C := Tryz.checked) (X := fun w _ => laidMetH Tryz.prog YtemfgkhholobgaaGreatDoor.Rows.walPlaysRow.laid w) (fun _ _ _ hh h => h.of_heap hh) own started (by kernel_rfl) Tryz.func3
    (ChangeSpec.witness_shaped (enc := enc) (C := Tryz.checked) (os := os) (X := fun w _ => laidMetH Tryz.prog YtemfgkhholobgaaGreatDoor.Rows.walPlaysRow.laid w) false (World.doorLaid Tryz.prog 2000 os) #[.int .i64 0, .slice none 0 0] 8 rfl (World.shaped_of_RefB (by kernel_rfl) (by kernel_rfl)) (by kernel_rfl) (by kernel_rfl) (by kernel_rfl) (door_met os _)) ?_
  intro W base args ds gs before hval0 hW _ _ hL _
  have hval : ∀ (j : Nat) t v, Tryz.f3.params[j]? = some t → args[j]? = some v → Value.okWide Tryz.prog W .any base t v := hval0
  have hWl : ∀ p ∈ before, p.block < W.heap.size := fun p hp => hW.lt p hp
  have hW' := hW
  obtain ⟨p, q, hA0, hV, rfl, hfz, hnd⟩ := hW
  have hA : DataW.TrodAll enc Tryz.prog W 0 (fun _ => true) true Tryz.f3.params.toList args.toList ds p := hA0
  rw [Tryz.params3] at hA hval
  obtain ⟨v0, v1, d0, d1, p0, p1, rfl, rfl, rfl, h0, h1⟩ := trodAll_two hA
  obtain ⟨rfl, rfl⟩ := trodVars_none hV
  obtain ⟨room, rfl, rfl, rfl, hwr⟩ := open_int Tryz.underlying3 (hval 0 3 v0 rfl rfl) h0
  have tabs := tabs_of_laid hL
  clear hA0 hval0
  obtain ⟨fuel, hf1⟩ := h1
  have c46 : Tryz.prog.cellsOf 46 = 11 := by kernel_rfl
  obtain ⟨s, rs, hcs, hv, hgood⟩ := open_view (T := 46) (ev := encRA) Tryz.underlying22 c46 (by omega) encRA_len open_act hf1
  have hv1 : v1 = .slice s.p s.len s.cap := by
    cases v1 <;> simp [Value.cells] at hcs ⊢ <;> first | exact hcs | skip
    all_goals
      have := hval 1 22 _ rfl rfl
      simp [Value.okWide, Tryz.underlying22, Cell.okWide, Cell.ok] at this
  subst hv1
  simp only [List.append_nil] at hW' hWl
  have call : law07_WalPlays.C room s (fun b h' => b = true ∧ Ext W.heap h') W.heap := walplays_spec tabs hv hgood fun h' u => ⟨rfl, u⟩
  refine (call W rfl).mono fun e W' ⟨hs, b, he, hb⟩ => ?_
  obtain ⟨hbt, hext⟩ := hb
  have hbelow := below_of hs hext
  have hbt' : b = true := hbt
  have he' : e = .returned (.bool true) := by rw [he, ← hbt']; rfl
  subst he'
  have ht1 : DataW.Trod enc Tryz.prog W 0 (fun _ => true) true 22 (.slice s.p s.len s.cap) d1 p1 := ⟨fuel, hf1⟩
  have k1 := Below.trod (P := Tryz.prog) (by kernel_rfl) (by kernel_rfl) (of_decide_eq_true (by kernel_rfl)) ht1 hbelow fun x hx => hWl x (by simpa using hx)
  refine ⟨_, rfl, _, _, _, [], [] ++ p1, [], hW', ?_, ?_, ?_, hbelow.frame _, fun h => by cases h⟩
  · exact trodAll_mk1 (shut_bool Tryz.underlying4 true)
  · exact trodAll_mk2 (shut_int Tryz.underlying3 hwr) k1
  · rfl
end Go.Proofs.W
namespace Go.Proofs.YtemfgkhholobgaaGreatDoor
open Go
theorem b2 {a b : Bool} (h : a = true) (k : b = true) : (a && b) = true := by rw [h, k]; rfl
theorem wp_closed : joinedFacts Tryz.prog 3 Tryz.f3 Rows.walPlaysSpec Rows.walPlaysRow = true :=
  b2 (b2 (b2 (b2 (b2 (b2 (b2 (b2 (b2 (b2 (b2 (b2 (b2 (b2 (b2 (b2 (b2 (b2 (b2 (b2 (b2 (b2 (b2 (b2 (b2 (b2 (b2 (b2 (b2 (b2 (b2
    c_wf c_laidOut) c_rowed) c_params) c_tie) rfl) c_stops) rfl) c_knobs) c_inPlace) c_unfollowed) c_recurses) c_named) c_maps) c_ifaces) c_mapsOut) c_loops) c_wide) c_vars) c_res) c_ifacesOut) c_loopsOut) c_plain) c_short) c_heard) c_enter) c_lifted) c_make) c_kinds) c_pinned) c_veiled) c_veiledFits
theorem walPlays_row : Rows.WalPlaysSaid :=
  OpenClaim.holds_of_wide 3 Tryz.f3 rfl rfl rfl rfl rfl rfl rfl ⟨rfl, rfl, rfl, rfl, rfl⟩ rfl rfl rfl rfl rfl wp_named Tryz.func3 wp_closed w_inst w_wrap
    (fun os started H enc _ => W.lifted os started H enc)
theorem walPlays_holds : Rows.WalPlaysCardSaid :=
  Claim7.holds_tied_plain_at .later [] [.data, .data, .data, .data, .sentinel, .sentinel] true (true, "aa6b1040fae10dd5a25c2e20a21eae0a5ef01bfaf432c89b4b579e69ba400503") true
    walPlays_row (fun _ h => by cases h) w_wf (fun _ h => by cases h) walPlays_row_tie rfl ⟨rfl, rfl⟩ w_main rfl
    (fun f fn hf hfn => by
      obtain rfl : f = 3 := Option.some.inj (wp_named.symm.trans hf) |>.symm
      obtain rfl : fn = Tryz.f3 := (Option.some.inj (Tryz.func3.symm.trans hfn)).symm
      exact ⟨w_looks, fun j t ht => by
        rw [Tryz.params3] at ht
        have hm : t ∈ [3, 22] := by simpa using Array.mem_of_getElem? ht
        exact (show Tryz.prog.wantsStandIn t = false by simpa using List.all_eq_true.1 w_stand t hm)⟩)
    w_goes
end Go.Proofs.YtemfgkhholobgaaGreatDoor

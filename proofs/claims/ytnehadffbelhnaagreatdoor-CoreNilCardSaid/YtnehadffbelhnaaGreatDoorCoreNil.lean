/-
  PROVED: the tied card of bellropelaw35.CoreNil: for every choice and every context, the law's call on a nil machine answers true, and what was in memory stays; given that math/bits.deBruijn32tab reads as the program's text lays it (the card's own tie).
  The kernel runs the law's alive(), a whole run of the machine on fixed inputs, over an own executor of the model's operations (the texts Lx1 to Lx18, proved sound against the model); the call itself is run with its two numbers unknown.
-/
import Derived.Test.YtnehadffbelhnaaGreatDoorCards
import Derived.Test.YtnehadffbelhnaaGreatDoorTie
import Derived.WalkKit
import Derived.ProofKit
import Derived.OpenShut
import Derived.Deep.DeepHandedRow
import Derived.Lib.LaidTab
import Derived.Test.YtnehadffbelhnaaGreatDoorLx18
import Derived.Test.YtnehadffbelhnaaGreatDoorTab
namespace Go.Proofs.YtnehadffbelhnaaGreatDoor
open Go.ChangeShapes Go.WideShapes Go.ChangeAt Go.RowKit Go.Lx
set_option maxRecDepth 100000

def table : List Int := [0, 1, 28, 2, 29, 14, 24, 3, 30, 22, 20, 15, 25, 17, 4, 8, 31, 27, 13, 23, 21, 19, 16, 7, 26, 12, 18, 6, 11, 5, 10, 9]
def tableCells : List Value := [.int .u8 0, .int .u8 1, .int .u8 28, .int .u8 2, .int .u8 29, .int .u8 14, .int .u8 24, .int .u8 3, .int .u8 30, .int .u8 22, .int .u8 20, .int .u8 15, .int .u8 25, .int .u8 17, .int .u8 4, .int .u8 8, .int .u8 31, .int .u8 27, .int .u8 13, .int .u8 23, .int .u8 21, .int .u8 19, .int .u8 16, .int .u8 7, .int .u8 26, .int .u8 12, .int .u8 18, .int .u8 6, .int .u8 11, .int .u8 5, .int .u8 10, .int .u8 9]
def tab : Laid := [(0, tableCells)]
/-- The table, as it is read. -/
def tabRom : Rom := fun a => match a with
  | ⟨b, i, s⟩ => match b, s with
    | 0, none => tableCells[i]?
    | _, _ => none
theorem tab_ok : tab.ok tabRom := by
  intro b cs h i v hv
  unfold tab at h
  simp only [List.lookup] at h
  split at h
  · rename_i hb
    have : b = 0 := by simpa using hb
    subst this
    cases h
    exact hv
  · cases h

theorem alive_run (M : Rom) (hG : tab.ok M) : (Eng.run (P := Tryz.prog) (M := .run M tab hG) cfg 60).call 18 [] [] yesK = True := by
  kernel_rfl
theorem alive : CallOk Tryz.prog (.sym tabRom) 18 [] [] (fun r _ => r = .v (.bool true)) := .of_yes cfg tabRom tab tab_ok 60 (alive_run _ _)
theorem core (choice ctx : Int) : CallOk Tryz.prog (.sym tabRom) 3 [.v (.int .i64 choice), .v (.int .i64 ctx)] [] (fun r _ => r = .v (.bool true)) :=
  .of_lazy cfg tabRom [] (fun _ _ h => nomatch h) alive 20 (by kernel_rfl)

theorem own : ownKnob Tryz.prog.godebug = none := by kernel_rfl
theorem gTab : Tryz.prog.globalNamed "math/bits.deBruijn32tab" = some 0 := by kernel_rfl
theorem gTabType : (Tryz.prog.globals[0]?).map (·.type) = some 257 := by kernel_rfl
theorem cells257 : Tryz.prog.cellsOf 257 = 32 := by kernel_rfl
theorem cells5 : Tryz.prog.cellsOf 5 = 1 := by kernel_rfl

/-- What the row's list gives: the table's cells hold its numbers. -/
theorem tabIs {W : World} (h : laidMet Tryz.prog Rows.coreNilRow.laid W) : Lib.TabIs Tryz.prog W "math/bits.deBruijn32tab" .u8 table :=
  Lib.tabIs_of_head (rest := []) gTab gTabType Tryz.underlying257 Tryz.underlying5 cells5 cells257 h
theorem tableCells_eq : tableCells = table.map fun z => Value.int .u8 z := rfl
theorem tab_cell {W : World} (h : laidMet Tryz.prog Rows.coreNilRow.laid W) : ∀ a u, tabRom a = some u → W.cell? a = some u := by
  rintro ⟨b, i, s⟩ u hu
  have h0 : b = 0 ∧ s = none ∧ tableCells[i]? = some u := by
    cases b with
    | succ b => cases hu
    | zero => cases s with
      | none => exact ⟨rfl, rfl, hu⟩
      | some s => cases hu
  obtain ⟨rfl, rfl, hu2⟩ := h0
  clear hu
  have hi : i < table.length := by
    have := (List.getElem?_eq_some_iff.1 hu2).1
    rw [tableCells_eq, List.length_map] at this
    exact this
  have := (tabIs h).cell gTab i hi
  rw [this]
  rw [tableCells_eq, List.getElem?_map] at hu2
  simp [List.getElem?_eq_getElem hi] at hu2
  simp [List.getD, hi, hu2]

/-- What the call does: it answers true, and what was there stays. -/
theorem calls (choice ctx : Int) {W : World} (h : laidMet Tryz.prog Rows.coreNilRow.laid W) :
    Calls Tryz.prog 3 #[.int .i64 choice, .int .i64 ctx] W fun e w' => e = .returned (.bool true) ∧ W.keptBut w' (fun _ => False) := by
  have hs : Sat (.sym tabRom) ⟨fun _ => 0, fun _ => .nilIface⟩ (fun _ _ => False) W [] :=
    ⟨fun i B hB => by simp at hB, fun i j k hi => hi.elim, fun i k hi => hi.elim, fun i _ k hk => hk, fun a u hu => ⟨tab_cell h a u hu, fun i hi => hi⟩, fun i => rfl⟩
  refine ((core choice ctx).out _ _ W hs ⟨trivial, trivial, trivial⟩).mono fun e w' ⟨e', own', H', r, h1, h2, h3, h4, h5, h6, h7⟩ => ?_
  subst h2
  refine ⟨h1, h6.os, h6.output, fun i hi => ?_⟩
  have := h6.block i hi (fun _ h => h)
  rw [this]
  cases hc : W.heap[i]? with
  | none => trivial
  | some o => cases o <;> simp

theorem contract (H : Type) (enc : TypeId × Value → H) (W : World) (base : Nat) (args : Array Value) (ds gs : List (DataW H)) (before : List MemPlace)
    (hval : ∀ (j : Nat) t v, Tryz.f3.params[j]? = some t → args[j]? = some v → Value.okWide Tryz.prog W .any base t v)
    (hW : DataW.Whole enc Tryz.prog Tryz.f3.params.toList Rows.coreNilSpec.vars false W args.toList ds gs before) (hL : laidMet Tryz.prog Rows.coreNilRow.laid W) :
    Calls Tryz.prog 3 args W fun e W' => ∃ v, e = .returned v ∧ Rows.coreNilSpec.post enc Tryz.prog Tryz.f3 false true false false W args v W' := by
  have hW' := hW
  obtain ⟨p, q, hA0, hV, rfl, hfz, hnd⟩ := hW
  have hA : DataW.TrodAll enc Tryz.prog W 0 (fun _ => true) true Tryz.f3.params.toList args.toList ds p := hA0
  rw [Tryz.params3] at hA hval
  obtain ⟨v0, v1, d0, d1, p0, p1, rfl, rfl, rfl, h0, h1⟩ := trodAll_two hA
  obtain ⟨rfl, rfl⟩ := trodVars_none hV
  obtain ⟨a, rfl, rfl, rfl, w0⟩ := open_int Tryz.underlying3 (hval 0 3 v0 rfl rfl) h0
  obtain ⟨b, rfl, rfl, rfl, w1⟩ := open_int Tryz.underlying3 (hval 1 3 v1 rfl rfl) h1
  clear hA0
  simp only [List.append_nil] at hW'
  refine (calls a b hL).mono fun e W' ⟨he, hg⟩ => ?_
  subst he
  exact ⟨_, rfl, _, _, _, [], [], [], hW', trodAll_mk1 (shut_bool Tryz.underlying4 _), trodAll_mk2 (shut_int Tryz.underlying3 w0) (shut_int Tryz.underlying3 w1), rfl, World.keptBut_mono (fun _ h => h.elim) hg, fun h => by cases h⟩

/-- A world for the witness: the settled one, the table (block 0) holding what its initialiser lays. -/
noncomputable def laidWorld (os : Os) : World :=
  { World.holding Tryz.prog os ⟨#[], #[], []⟩ with heap := (World.holding Tryz.prog os ⟨#[], #[], []⟩).heap.modify 0 fun
      | .cells _ t frozen => .cells tableCells.toArray t frozen
      | o => o }
theorem laid_met (os : Os) : laidMet Tryz.prog Rows.coreNilRow.laid ((laidWorld os).forCall (fun _ _ => 0) ⟨#[], #[.int .i64 0, .int .i64 0], []⟩).memory :=
  laidMet_of_run' 40 (by kernel_rfl) (by kernel_rfl)
theorem reads (os : Os) {H : Type} (enc : TypeId × Value → H) : ∃ places, DataW.whole enc Tryz.prog ((laidWorld os).forCall (fun _ _ => 0) ⟨#[], #[.int .i64 0, .int .i64 0], []⟩).memory Tryz.f3.params.toList Rows.coreNilSpec.vars false #[Value.int .i64 0, Value.int .i64 0].toList 8 = some ([.lit (.int .i64 0), .lit (.int .i64 0)], [], places) :=
  ⟨[], by kernel_rfl⟩

theorem lifted (os : Os) (started : os.Started) (H : Type) (enc : TypeId × Value → H) (F : Stop.Interp) :
    ReturnsInHanded {} Tryz.checked os 3 .any ((OpenSpec.ofChange Rows.coreNilSpec).preRow enc Tryz.prog Tryz.f3 Rows.coreNilRow.domain false Rows.coreNilRow.laid) (((OpenSpec.ofChange Rows.coreNilSpec).at F).post enc Tryz.prog Tryz.f3 false true false false) := by
  obtain ⟨places, hx⟩ := reads os enc
  refine returnsInHanded_of_row (C := Tryz.checked) (s := OpenSpec.ofChange Rows.coreNilSpec) own started (by kernel_rfl) Tryz.func3
    (witness_row_at (enc := enc) (C := Tryz.checked) false (laidWorld os) #[.int .i64 0, .int .i64 0] rfl (by kernel_rfl) (by kernel_rfl) (by kernel_rfl)
      (OpenSpec.preRow_of_cond 8 hx (by kernel_rfl) (fun k hk => by cases hk) (by kernel_rfl) (laid_met os))) ?_
  intro W base args ds gs before hval hW _ _ _ hL _ _
  exact contract H enc W base args ds gs before hval hW hL

theorem coreNil_holds : Rows.CoreNilSaid :=
  OpenClaim.holds_of_cond 3 Tryz.f3 rfl rfl rfl rfl rfl rfl rfl ⟨rfl, rfl, rfl, rfl, rfl⟩ rfl rfl rfl rfl rfl (by kernel_rfl) Tryz.func3 (by kernel_rfl)
    (of_decide_eq_true (by kernel_rfl)) (by unfold Func.isWrapper; first | (rw [if_pos (by decide +kernel)]; kernel_rfl) | (rw [if_neg (by decide +kernel)]; exact ⟨rfl, rfl⟩))
    (fun os started H enc _ F => by rw [OpenClaim.pre_eq_preRow]; exact lifted os started H enc F)

/-- No parameter wants a stand-in; the program's own looks are off. -/
theorem plain (f : FuncId) (fn : Func) (hf : Tryz.pinned.checked.prog.funcNamed "bellrope/bellropelaw35.CoreNil" = some f) (hfn : Tryz.pinned.checked.prog.funcs[f]? = some fn) :
    false = Tryz.pinned.checked.prog.looks [] ∧ ∀ (j : Nat) t, fn.params[j]? = some t → Tryz.pinned.checked.prog.wantsStandIn t = false := by
  obtain rfl : f = 3 := Option.some.inj ((show Tryz.prog.funcNamed "bellrope/bellropelaw35.CoreNil" = some 3 by kernel_rfl).symm.trans hf) |>.symm
  obtain rfl : fn = Tryz.f3 := (Option.some.inj (Tryz.func3.symm.trans hfn)).symm
  refine ⟨by kernel_rfl, fun j t ht => ?_⟩
  rw [Tryz.params3] at ht
  obtain rfl : t = 3 := by simpa using Array.mem_of_getElem? ht
  exact (show Tryz.prog.wantsStandIn 3 = false by kernel_rfl)

theorem coreNil_card : Rows.CoreNilCardSaid :=
  Claim7.holds_tied_plain_at .later [] _ _ _ _ coreNil_holds (fun _ h => by cases h) (by kernel_rfl) (fun _ h => by cases h) coreNil_row_tie rfl ⟨rfl, rfl⟩ (by kernel_rfl) rfl plain (by kernel_rfl)
end Go.Proofs.YtnehadffbelhnaaGreatDoor

/-
  WHAT THE ROWS' LISTS GIVE, AND A WORLD FOR THE WITNESS: shared by the three laws' cards.
-/
import Derived.Test.YtbfiejgdgdlciaaDoorTie
import Derived.Test.YtbfiejgdgdlciaaDoorW2
import Derived.ProofKit
import Derived.OpenShut
import Derived.Deep.DeepHandedRow
import Derived.Deep.DeepWitnessRowRef
import Derived.Lib.LaidTab
import Derived.Lib.LaidIn
import Derived.Stop.LaidErr
import Derived.Deep.DeepLaidRun
import Derived.Below
import Derived.ChangeSame
namespace Go.Proofs.YtbfiejgdgdlciaaDoor
open Go.RowKit Go.ChangeShapes Go.WideShapes
open Go

section
variable {H : Type} {enc : TypeId × Value → H} {P : Program}
theorem post_of_below {f : Func} {s : ChangeSpec} {apart fresh handsOn again : Bool} {W W' : World} {args : Array Value} {v : Value} {ds gs : List (DataW H)} {before pa pv : List MemPlace}
    (hW : DataW.Whole enc P f.params.toList s.vars apart W args.toList ds gs before)
    (hres : ∀ (b : Nat) (sp : Nat → Bool) (hd : Bool), DataW.TrodAll enc P W' b sp hd f.resultTypes.toList (v.resultList f.resultTypes.size) (s.fn H (ds ++ gs)).results [])
    (hargs : ∀ sp : Nat → Bool, (∀ p ∈ before, sp p.block = true) → DataW.TrodAll enc P W' 0 sp true f.params.toList args.toList (s.fn H (ds ++ gs)).args pa)
    (hvars : ∀ sp : Nat → Bool, (∀ p ∈ before, sp p.block = true) → DataW.TrodVars enc P W' sp s.vars (s.fn H (ds ++ gs)).vars pv)
    (hps : before = pa ++ pv) (hb : Below W.heap.size W W')
    (hok : ∀ (j : Nat) (t : TypeId) (r : Value), f.resultTypes[j]? = some t → (v.resultList f.resultTypes.size)[j]? = some r → Value.okWide P W' .any 0 t r) :
    s.post enc P f apart fresh handsOn again W args v W' := by
  have hlt : ∀ p ∈ before, p.block < W.heap.size := fun p hp => hW.lt p hp
  have hold : ∀ p ∈ before, (fun b => decide (b < W.heap.size)) p.block = true := fun p hp => by simpa using hlt p hp
  refine ⟨ds, gs, before, [], pa, pv, hW, hres _ _ _, hargs _ hold, hvars _ hold, World.keptBut_mono (fun p hp => ⟨hp, ?_⟩) (hb.frame (· ∈ before)), fun _ => ?_⟩
  · rw [hps, List.mem_append] at hp
    exact Or.inr hp
  · obtain ⟨_, _, _, _, _, hz, hn⟩ := hW
    refine ⟨hok, _, _, ([] ++ pa) ++ pv, ⟨[] ++ pa, pv, trodAll_append (hargs _ (fun _ _ => rfl)) (hres _ _ _), hvars _ (fun _ _ => rfl), rfl, ?_, ?_⟩, ?_⟩
    · intro b off hp
      have hin : MemPlace.cell b off ∈ before := by rw [hps]; simpa using hp
      rw [hb.frozen (hlt _ hin)]
      exact hz b off hin
    · intro ha
      have := hn ha
      rw [hps] at this
      simpa using this
    · intro p hp _
      rw [hps]
      simpa using hp
end

theorem own : ownKnob Tryd.prog.godebug = none := by kernel_rfl
theorem seat_pow : Tryd.prog.globalNamed "internal/strconv.uint64pow10" = some 1 := by kernel_rfl
theorem seat_syn : Tryd.prog.globalNamed "strconv.ErrSyntax" = some 2 := by kernel_rfl
theorem seat_rng : Tryd.prog.globalNamed "strconv.ErrRange" = some 3 := by kernel_rfl

theorem seat_t1 : (Tryd.prog.globals[1]?).map (·.type) = some 99 := by kernel_rfl
theorem seat_t2 : (Tryd.prog.globals[2]?).map (·.type) = some 64 := by kernel_rfl
theorem seat_t3 : (Tryd.prog.globals[3]?).map (·.type) = some 64 := by kernel_rfl
theorem seat_star : "*" ++ "errors.errorString" = "*errors.errorString" := by decide
theorem row117 (u : TypeId) (h : Tryd.prog.typeName? 3 u = some "*errors.errorString") : u = 117 :=
  typeName_ptr_named (nm := "errors.errorString") (by rw [seat_star]; kernel_rfl) (by kernel_rfl) (by decide) u (by rw [seat_star]; exact h)

theorem seat_c99 : Tryd.prog.cellsOf 99 = 20 := by kernel_rfl
theorem seat_c83 : Tryd.prog.cellsOf 83 = 1 := by kernel_rfl
theorem seat_c119 : Tryd.prog.cellsOf 119 = 1 := by kernel_rfl
theorem seat_c9 : Tryd.prog.cellsOf 9 = 1 := by kernel_rfl

/-- what the three rows list -/
abbrev seatLaid : List (String × DataW Unit) := Rows.deedOnlyRow.laid

theorem seat_list : seatLaid = [("math/bits.deBruijn32tab", Rows.laid_math_bits_deBruijn32tab), ("math/bits.deBruijn64tab", Rows.laid_math_bits_deBruijn64tab), ("internal/strconv.uint64pow10", Lib.tabData .u64 Lib.pow10Tab),
    ("unicode/utf8.acceptRanges", Rows.laid_unicode_utf8_acceptRanges), ("strconv.ErrRange", Rows.laid_strconv_ErrRange), ("strconv.ErrSyntax", Rows.laid_strconv_ErrSyntax), ("unicode/utf8.first", Rows.laid_unicode_utf8_first)] := by kernel_rfl

theorem met_of (W : World) (h : laidMetH Tryd.prog seatLaid W) : laidMet Tryd.prog seatLaid W := by
  unfold laidMetH at h
  have hf : (seatLaid.filter fun x => x.2.handleName?.isSome) = [] := by kernel_rfl
  rw [hf] at h
  exact h

theorem var_cell {W : World} {name : String} {g : Nat} {v : Value} (hg : Tryd.prog.globalNamed name = some g) (hv : W.var? Tryd.prog name = some #[v]) : W.cell? ⟨g, 0, none⟩ = some v := by
  have := World.var?_cell hg hv 0
  simpa using this

theorem heap_of (W : World) (hs : W.ShapedOpen Tryd.prog) : 8 ≤ W.heap.size := by
  obtain ⟨cs, h, _, _⟩ := hs.1 7 (Array.replicate 64 (.int .u8 0)) 121 (of_decide_eq_true (by kernel_rfl)) (by kernel_rfl)
  rcases Nat.lt_or_ge 7 W.heap.size with h1 | h1
  · exact h1
  · rw [Array.getElem?_eq_none h1] at h; cases h

/-- the variables hold what the program's text lays -/
theorem env_of (W : World) (h : laidMetH Tryd.prog seatLaid W) (hs : W.ShapedOpen Tryd.prog) : Env W := by
  have h0 := met_of W h
  rw [seat_list] at h0
  have h1 := h0.tail.tail
  have h2 := h1.tail.tail
  have h3 := h2.tail
  have hr := h2
  obtain ⟨a2, s2, hv2, _, _, _⟩ := laid_sentinel (text := [118, 97, 108, 117, 101, 32, 111, 117, 116, 32, 111, 102, 32, 114, 97, 110, 103, 101]) hr seat_rng seat_t3 Tryd.underlying64 row117 Tryd.underlying117 Tryd.underlying119 rfl rfl Tryd.underlying9 seat_c119 seat_c9
  obtain ⟨a3, s3, hv3, _, _, _⟩ := laid_sentinel (text := [105, 110, 118, 97, 108, 105, 100, 32, 115, 121, 110, 116, 97, 120]) h3 seat_syn seat_t2 Tryd.underlying64 row117 Tryd.underlying117 Tryd.underlying119 rfl rfl Tryd.underlying9 seat_c119 seat_c9
  refine ⟨Lib.tabIs_of_head seat_pow seat_t1 Tryd.underlying99 Tryd.underlying83 seat_c83 seat_c99 h1, ⟨_, _, var_cell seat_syn hv3⟩, ⟨_, _, var_cell seat_rng hv2⟩, Go.Proofs.cell_of_shapedOpen_int (zero := #[.int .i64 0]) (t := 3) hs (of_decide_eq_true (by kernel_rfl)) (by kernel_rfl) rfl (by kernel_rfl) (by kernel_rfl) Tryd.underlying3, ?_⟩
  exact heap_of W hs

/-- A WORLD FOR THE WITNESS: the settled one, the listed variables as their initialisers lay them, the two errors' structs behind. -/
noncomputable def laidWorld (os : Os) : World :=
  let N := (World.settled Tryd.prog os).heap.size
  let w0 := World.holding Tryd.prog os ⟨#[
    .cells #[.string ⟨#[105, 110, 118, 97, 108, 105, 100, 32, 115, 121, 110, 116, 97, 120]⟩] 119, .cells #[.string ⟨#[118, 97, 108, 117, 101, 32, 111, 117, 116, 32, 111, 102, 32, 114, 97, 110, 103, 101]⟩] 119], #[], []⟩
  let put (h : Array Obj) (g : Nat) (cs : Array Value) : Array Obj := h.modify g fun
    | .cells _ t frozen => .cells cs t frozen
    | o => o
  let lits : DataW Unit → Array Value := fun
    | .agg l => (l.flatMap fun
      | .lit (.int k z) => [Value.int k z]
      | .agg m => m.flatMap fun
        | .lit (.int k z) => [Value.int k z]
        | _ => []
      | _ => []).toArray
    | _ => #[]
  let h1 := put (put w0.heap 2 #[.iface 117 (.pointer (some ⟨N, 0, none⟩))]) 3 #[.iface 117 (.pointer (some ⟨N + 1, 0, none⟩))]
  let h2 := put h1 1 (lits Rows.laid_internal_strconv_uint64pow10)
  let h3 := put h2 4 (lits Rows.laid_unicode_utf8_first)
  let h4 := put h3 5 (lits Rows.laid_unicode_utf8_acceptRanges)
  let h5 := put h4 6 (lits Rows.laid_math_bits_deBruijn32tab)
  let h6 := put h5 7 (lits Rows.laid_math_bits_deBruijn64tab)
  { w0 with heap := h6 }

set_option maxRecDepth 100000 in
theorem laid_met (os : Os) (args : Array Value) : laidMet Tryd.prog seatLaid ((laidWorld os).forCall (fun _ _ => 0) ⟨#[], args, []⟩).memory :=
  laidMet_of_run3 8 (by kernel_rfl) (by kernel_rfl) (by kernel_rfl)
end Go.Proofs.YtbfiejgdgdlciaaDoor

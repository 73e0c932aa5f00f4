/-
  THE LAW DeedValues (roadkeep1.DeedValues): for every value and every text the call returns true and leaves both as they were. The condition is the row's own: what is read holds at most 1048576 values and letters, each counted each time it is reached.
-/
import Derived.Test.YtbfiejgdgdlciaaDoorCards
import Derived.Test.YtbfiejgdgdlciaaDoorTie
import Derived.Test.YtbfiejgdgdlciaaDoorW25
import Derived.Test.YtbfiejgdgdlciaaDoorW30
namespace Go.Proofs.YtbfiejgdgdlciaaDoor
open Go.RowKit Go.ChangeShapes Go.WideShapes Go.ChangeAt
open Go
open Go.ChangeMaps (open_string shut_string)
open Ds (V Bs D)

theorem valF_fit (s : Bs) (hl : s.length ≤ 300) : Ds.valF s = (Ds.zeroV, 10) ∨ ∃ v, Ds.valF s = (v, 0) ∧ Ds.textF 40 v = (s, 0) ∧ Ds.wfV v ∧ Ds.nodes v ≤ 33554432 := by
  have hw := valueF_wf 40 s false (by omega)
  have hn := Ds.valueF_nodes 40 s false
  unfold Ds.valF
  split
  · exact Or.inl rfl
  · split
    · rename_i h
      exact Or.inr ⟨_, rfl, Prod.ext h.2 h.1, hw, by omega⟩
    · exact Or.inl rfl

/-- roadkeep1.DeedValues answers true -/
theorem values_calls (x : V) (A : Option Addr) (cap : Nat) (s : Bs) (w : World) (he : Env w) (hR : RL w (fun _ => True) A 0 x.args) (hcap : x.args.length ≤ cap) (hx : Ds.wfV x) (hn : Ds.nodes x ≤ 220000) :
    Calls Tryd.prog 5 #[.agg #[.int .i64 x.kind, .int .i64 x.num, .string ⟨x.text.toArray⟩, .slice A x.args.length cap], .string ⟨s.toArray⟩] w fun e w' => e = .returned (.bool true) ∧ Below w.heap.size w w' := by
  by_cases hl : 300 < s.length
  · exact values_long x A cap s w he hl
  have hl' : s.length ≤ 300 := by omega
  have hT : ∀ W, RL W (fun _ => True) A 0 x.args → Env W → Calls Tryd.prog 9 #[.agg #[.int .i64 x.kind, .int .i64 x.num, .string ⟨x.text.toArray⟩, .slice A x.args.length cap]] W
      fun e w' => e = .returned (.tuple #[.string ⟨(Ds.textF 40 x).1.toArray⟩, .int .i64 (Ds.textF 40 x).2]) ∧ Below W.heap.size W w' := fun W hR hW =>
    Text_calls x _ _ _ _ _ W (RV.make hcap hR) hx (by omega) hW
  have hT2 : ∀ y : V, Ds.textF 40 y = (s, 0) → Ds.wfV y → Ds.nodes y ≤ 33554432 → ∀ (A9 : Option Addr) (cap9 : Nat) (S : Nat → Prop) (W : World), RV W S y (.int .i64 y.kind) (.int .i64 y.num) (.string ⟨y.text.toArray⟩) (.slice A9 y.args.length cap9) → Env W →
      Calls Tryd.prog 9 #[.agg #[.int .i64 y.kind, .int .i64 y.num, .string ⟨y.text.toArray⟩, .slice A9 y.args.length cap9]] W fun e w' => e = .returned (.tuple #[.string ⟨s.toArray⟩, .int .i64 0]) ∧ Below W.heap.size W w' := fun y ht hy hny A9 cap9 S W hr hW => by
    have h := Text_calls y S _ _ _ _ W hr hy hny hW
    rw [ht] at h
    exact h
  by_cases ht : (Ds.textF 40 x).2 = 0
  · obtain ⟨t, htx⟩ : ∃ t, Ds.textF 40 x = (t, 0) := ⟨(Ds.textF 40 x).1, by rw [← ht]⟩
    have hlen : t.length ≤ 16777216 := by
      have := Ds.textF_len 40 x hx
      rw [htx] at this
      simp only at this
      omega
    have hval := Ds.valF_text hx htx
    rw [htx] at hT
    have hbn : Ds.nodes (Ds.bareF x) ≤ 33554432 := by
      have h1 := Ds.valueF_nodes 40 t false
      have h2 : (Ds.valueF 40 t false).1 = Ds.bareF x := by
        unfold Ds.valF at hval
        split at hval
        · injection hval with _ h; cases h
        · split at hval
          · injection hval with h _
          · injection hval with _ h; cases h
      rw [h2] at h1
      omega
    have hbv : ∀ W, RL W (fun _ => True) A 0 x.args → Env W → Calls Tryd.prog 12 #[.agg #[.int .i64 x.kind, .int .i64 x.num, .string ⟨x.text.toArray⟩, .slice A x.args.length cap]] W
        fun e w' => ∃ (A9 : Option Addr) (cap9 : Nat), e = .returned (.agg #[.int .i64 (Ds.bareF x).kind, .int .i64 (Ds.bareF x).num, .string ⟨(Ds.bareF x).text.toArray⟩, .slice A9 (Ds.bareF x).args.length cap9]) ∧
          RL w' (fun k => W.heap.size ≤ k) A9 0 (Ds.bareF x).args ∧ Below W.heap.size W w' := fun W hR hW =>
      (bare_calls _ x (Nat.le_refl _) (by omega) _ A cap W hR hW.sz).mono fun e w' ⟨A9, cap9, he, hv, hb⟩ => ⟨A9, cap9, he, by
        obtain ⟨A4, c4, _, _, _, e4, _, hr⟩ := hv.form
        injection e4 with e1 _ _
        rw [e1]
        exact hr, hb⟩
    have hs := same_calls _ (Ds.bareF x) (Nat.le_refl _) hbn
    rcases valF_fit s hl' with hv | ⟨y, hv, hyt, hyw, hyn⟩
    · exact values_gb x (Ds.bareF x) A cap s t w he hl' hR (Lib.hid hT) (Lib.hid (read_said t hlen _ _ hval)) (Lib.hid (read_said s (by omega) _ _ hv)) (Lib.hid hbv) (Lib.hid hs)
    · exact values_gg x y (Ds.bareF x) A cap s t w he hl' hR (Lib.hid hT) (Lib.hid (read_said t hlen _ _ hval)) (Lib.hid (read_said s (by omega) _ _ hv)) (Lib.hid (hT2 y hyt hyw hyn)) (Lib.hid hbv) (Lib.hid hs)
  · have hz : (Ds.textF 40 x).1 = [] := Ds.textF_err 40 x ht
    rw [hz] at hT
    rcases valF_fit s hl' with hv | ⟨y, hv, hyt, hyw, hyn⟩
    · exact values_eb x A cap s w he hl' hR _ ht (Lib.hid hT) (Lib.hid (read_said s (by omega) _ _ hv))
    · exact values_eg x y A cap s w he hl' hR _ ht (Lib.hid hT) (Lib.hid (read_said s (by omega) _ _ hv)) (Lib.hid (hT2 y hyt hyw hyn))

theorem bulk_bound2 {H : Type} {d1 d2 : DataW H} {gs : List (DataW H)} (hk : Rows.uptoSmall H (d1 :: d2 :: gs) = true) : Rows.uptoBulk d1 ≤ 1048576 := by
  have : Rows.uptoBulkAll (d1 :: d2 :: gs) ≤ 1048576 := by simpa [Rows.uptoSmall] using hk
  simp only [Rows.uptoBulkAll] at this
  omega

set_option maxRecDepth 100000 in
theorem values_contract (H : Type) (enc : TypeId × Value → H) (W : World) (base : Nat) (args : Array Value) (ds gs : List (DataW H)) (before : List MemPlace)
    (hval : ∀ (j : Nat) t v, Tryd.f5.params[j]? = some t → args[j]? = some v → Value.okWide Tryd.prog W .any base t v)
    (hW : DataW.Whole enc Tryd.prog Tryd.f5.params.toList Rows.deedValuesSpec.vars false W args.toList ds gs before) (hk : Rows.uptoSmall H (ds ++ gs) = true) (hE : Env W) :
    Calls Tryd.prog 5 args W fun e W' => ∃ v, e = .returned v ∧ Rows.deedValuesSpec.post enc Tryd.prog Tryd.f5 false true false false W args v W' := by
  have hW' := hW
  have hlt := fun p hp => hW.lt p hp
  obtain ⟨p, q, hA0, hV, rfl, hfz, hnd⟩ := hW
  have hA : DataW.TrodAll enc Tryd.prog W 0 (fun _ => true) true Tryd.f5.params.toList args.toList ds p := hA0
  have hA1 := hA
  rw [Tryd.params5] at hA hval
  obtain ⟨v0, vs0, d0, ds0, p0, q0, hargs, rfl, rfl, h0, r0⟩ := trodAll_cons hA
  obtain ⟨v1, vs1, d1, ds1, p1, q1, rfl, rfl, rfl, h1, r1⟩ := trodAll_cons r0
  obtain ⟨rfl, rfl, rfl⟩ := trodAll_nil r1
  obtain rfl : args = #[v0, v1] := by cases args; simp_all
  obtain ⟨rfl, rfl⟩ := trodVars_none hV
  obtain ⟨x, A, cap, rfl, hc, hR, hx, hni⟩ := open_value (hval 0 34 v0 rfl rfl) h0
  obtain ⟨s, rfl, rfl, rfl, hs⟩ := open_string Tryd.underlying9 (hval 1 9 v1 rfl rfl) h1
  have hb := bulk_bound2 hk
  have hcall := values_calls x A cap s.data.toList W hE hR hc hx (by omega)
  rw [show (⟨s.data.toList.toArray⟩ : ByteArray) = s by cases s; simp] at hcall
  simp only [List.append_nil] at hW' hlt
  simp only [List.append_nil] at hA1
  refine hcall.mono fun e W' ⟨he, hg⟩ => ?_
  subst he
  exact ⟨_, rfl, post_of_below (pa := p0) (pv := []) hW' (fun _ _ _ => trodAll_cons_mk (shut_bool Tryd.underlying4 _) trodAll_mk0)
    (fun sp hsp => again hA1 (by rw [Tryd.params5]; decide +kernel) hlt hg sp hsp) (fun _ _ => rfl) (by simp)
    hg (ok_one (by kernel_rfl) rfl (okWide_bool_mk Tryd.underlying4 _))⟩

abbrev valuesArg : Value := .agg #[.int .i64 0, .int .i64 0, .string ⟨#[]⟩, .slice none 0 0]

theorem values_reads (os : Os) {H : Type} (enc : TypeId × Value → H) : ∃ places, DataW.whole enc Tryd.prog ((laidWorld os).forCall (fun _ _ => 0) ⟨#[], #[valuesArg, .string ⟨#[]⟩], []⟩).memory Tryd.f5.params.toList Rows.deedValuesSpec.vars false #[valuesArg, .string ⟨#[]⟩].toList 8 =
    some ([.agg [.lit (.int .i64 0), .lit (.int .i64 0), .lit (.string []), .nil], .lit (.string [])], [], places) :=
  ⟨[], by kernel_rfl⟩

set_option maxRecDepth 100000 in
theorem values_lifted (os : Os) (started : os.Started) (H : Type) (enc : TypeId × Value → H) (F : Stop.Interp) :
    ReturnsInHanded {} Tryd.checked os 5 .any ((Rows.OpenSpec.upto Rows.deedValuesSpec).preRow enc Tryd.prog Tryd.f5 Rows.deedValuesUptoRow.domain false Rows.deedValuesUptoRow.laid) (((Rows.OpenSpec.upto Rows.deedValuesSpec).at F).post enc Tryd.prog Tryd.f5 false true false false) := by
  obtain ⟨places, hx⟩ := values_reads os enc
  refine returnsInHanded_of_row (C := Tryd.checked) (s := Rows.OpenSpec.upto Rows.deedValuesSpec) own started (by kernel_rfl) Tryd.func5
    (witness_row_atRef (enc := enc) (C := Tryd.checked) false (laidWorld os) #[valuesArg, .string ⟨#[]⟩] rfl (by kernel_rfl) (by kernel_rfl) (by kernel_rfl)
      (OpenSpec.preRow_of_cond 8 hx (by kernel_rfl) (fun k hk => by cases hk; kernel_rfl) (by kernel_rfl) (laid_met os _))) ?_
  intro W base args ds gs before hval hW _ hcond _ hL hsh _
  exact values_contract H enc W base args ds gs before hval hW (hcond _ rfl) (env_of W hL hsh)

theorem values_said : Rows.DeedValuesUptoSaid :=
  OpenClaim.holds_of_cond 5 Tryd.f5 rfl rfl rfl rfl rfl rfl rfl ⟨rfl, rfl, rfl, rfl, rfl⟩ rfl rfl rfl rfl rfl (by kernel_rfl) Tryd.func5 (by kernel_rfl)
    (of_decide_eq_true (by kernel_rfl)) (by unfold Func.isWrapper; first | (rw [if_pos (by decide +kernel)]; kernel_rfl) | (rw [if_neg (by decide +kernel)]; exact ⟨rfl, rfl⟩))
    (fun os started H enc _ F => by rw [OpenClaim.pre_eq_preRow]; exact values_lifted os started H enc F)

theorem values_plain (f : FuncId) (fn : Func) (hf : Tryd.pinned.checked.prog.funcNamed "roadstead/roadkeep1.DeedValues" = some f) (hfn : Tryd.pinned.checked.prog.funcs[f]? = some fn) :
    true = Tryd.pinned.checked.prog.looks [] ∧ ∀ (j : Nat) t, fn.params[j]? = some t → Tryd.pinned.checked.prog.wantsStandIn t = false := by
  obtain rfl : f = 5 := Option.some.inj ((show Tryd.prog.funcNamed "roadstead/roadkeep1.DeedValues" = some 5 by kernel_rfl).symm.trans hf) |>.symm
  obtain rfl : fn = Tryd.f5 := (Option.some.inj (Tryd.func5.symm.trans hfn)).symm
  refine ⟨by kernel_rfl, fun j t ht => ?_⟩
  rw [Tryd.params5] at ht
  have hm : t = 34 ∨ t = 9 := by simpa using Array.mem_of_getElem? ht
  rcases hm with rfl | rfl
  · exact (show Tryd.prog.wantsStandIn 34 = false by kernel_rfl)
  · exact (show Tryd.prog.wantsStandIn 9 = false by kernel_rfl)

/-- the card of DeedValues, second form -/
theorem values_card : Rows.DeedValuesUptoCardSaid :=
  Claim7.holds_tied_plain_at .later [] _ _ _ _ values_said (fun _ h => by cases h) (by kernel_rfl) (fun _ h => by cases h) deedValuesUpto_row_tie rfl ⟨rfl, rfl⟩ (by kernel_rfl) rfl values_plain (by kernel_rfl)
end Go.Proofs.YtbfiejgdgdlciaaDoor

/-
  ARGUMENTS OPENED: what reads as an api.Value or a deed.Deed, as plain values; and that a reading stays behind a call that changes nothing old.
-/
import Derived.Test.YtbfiejgdgdlciaaDoorRows
import Derived.Test.YtbfiejgdgdlciaaDoorBase
import Derived.Deep.Slices
import Derived.Deep.Fields
import Derived.Lib.SmallJoins
import Derived.ReadAgain
import Derived.Below
namespace Go.Proofs.YtbfiejgdgdlciaaDoor
open Go.RowKit Go.Joins Go.ChangeShapes Go.WideShapes Go.Deep
open Go
open Ds (V Bs D)

theorem seat_c34 : Tryd.prog.cellsOf 34 = 4 := by kernel_rfl
theorem seat_c24 : Tryd.prog.cellsOf 24 = 5 := by kernel_rfl
theorem seat_c3 : Tryd.prog.cellsOf 3 = 1 := by kernel_rfl
theorem seat_c9' : Tryd.prog.cellsOf 9 = 1 := by kernel_rfl
theorem seat_c22 : Tryd.prog.cellsOf 22 = 1 := by kernel_rfl

section
variable {H : Type} {enc : TypeId × Value → H} {W : World} {sp : Nat → Bool} {held : Bool}

theorem bulk_one {H : Type} (d : DataW H) : 1 ≤ Rows.uptoBulk d := by
  cases d with
  | lit l => cases l <;> simp [Rows.uptoBulk]
  | nil => simp [Rows.uptoBulk]
  | ptr d => simp [Rows.uptoBulk]
  | slice elems spare => simp [Rows.uptoBulk]
  | agg parts => simp [Rows.uptoBulk]
  | iface t d => simp [Rows.uptoBulk]
  | map entries => simp [Rows.uptoBulk]
  | held h => simp [Rows.uptoBulk]

theorem add_none (b o n : Nat) : (⟨b, o, none⟩ : Addr).add n = ⟨b, o + n, none⟩ := by
  unfold Addr.add
  split
  · rename_i h
    rw [h]; rfl
  · rfl
theorem int_bounds {k : Int} (h : (Lit.int .i64 k).wf = true) : -9223372036854775808 ≤ k ∧ k ≤ 9223372036854775807 := by
  simp only [Lit.wf, Bool.and_eq_true, decide_eq_true_eq] at h
  exact h

theorem all_le {n : Nat} (IH : ∀ (cs : List Value) (x : DataW H × List MemPlace), DataW.trod enc Tryd.prog W 0 sp held n 34 cs = some x →
      ∃ (v : V) (c0 c1 c2 c3 : Value), cs = [c0, c1, c2, c3] ∧ RV W (fun _ => True) v c0 c1 c2 c3 ∧ Ds.wfV v ∧ 5 * Ds.nodes v ≤ Rows.uptoBulk x.1) (b o : Nat) :
    ∀ (es : List (DataW H × List MemPlace)) (i : Nat), (∀ j y, es[j]? = some y → (W.cells? 0 ((⟨b, o, none⟩ : Addr).add ((i + j) * 4)) 4).bind (DataW.trod enc Tryd.prog W 0 sp held n 34) = some y) →
      ∃ l : List V, l.length = es.length ∧ RL W (fun _ => True) (some ⟨b, o, none⟩) i l ∧ Ds.wfL l ∧ 5 * Ds.nodesL l ≤ Rows.uptoBulkAll (es.map (·.1))
  | [], i, _ => ⟨[], rfl, by simp only [RL], trivial, by simp [Ds.nodesL, Rows.uptoBulkAll]⟩
  | y :: r, i, h => by
    obtain ⟨l, h1, h2, h3, h4⟩ := all_le IH b o r (i + 1) (fun j z hz => by
      rw [show i + 1 + j = i + (j + 1) by omega]
      exact h (j + 1) z (by simpa using hz))
    obtain ⟨cs', hc, ht⟩ := Option.bind_eq_some_iff.1 (h 0 y rfl)
    obtain ⟨v, c0, c1, c2, c3, rfl, hv, hw, hn⟩ := IH cs' y ht
    obtain ⟨_, _, hat⟩ := World.cells?_some hc
    have e0 := hat 0 (by decide)
    have e1 := hat 1 (by decide)
    have e2 := hat 2 (by decide)
    have e3 := hat 3 (by decide)
    simp only [add_none, Nat.add_zero] at e0 e1 e2 e3
    refine ⟨v :: l, by simp [h1], ?_, ⟨hw, h3⟩, ?_⟩
    · simp only [RL]
      exact ⟨⟨b, o, c0, c1, c2, c3, rfl, trivial, by simpa using e0, by simpa using e1, by simpa using e2, by simpa using e3, hv⟩, h2⟩
    · simp only [Ds.nodesL, List.map_cons, Rows.uptoBulkAll]; omega

theorem open_list {n : Nat} (IH : ∀ (cs : List Value) (x : DataW H × List MemPlace), DataW.trod enc Tryd.prog W 0 sp held n 34 cs = some x →
      ∃ (v : V) (c0 c1 c2 c3 : Value), cs = [c0, c1, c2, c3] ∧ RV W (fun _ => True) v c0 c1 c2 c3 ∧ Ds.wfV v ∧ 5 * Ds.nodes v ≤ Rows.uptoBulk x.1) (cs : List Value) (x : DataW H × List MemPlace)
    (h : DataW.trod enc Tryd.prog W 0 sp held (n + 1) 22 cs = some x) :
    ∃ (A : Option Addr) (l : List V) (cap : Nat), cs = [.slice A l.length cap] ∧ l.length ≤ cap ∧ RL W (fun _ => True) A 0 l ∧ Ds.wfL l ∧ 5 * Ds.nodesL l + 1 ≤ Rows.uptoBulk x.1 := by
  rcases DataW.trod_slice Tryd.underlying22 h with ⟨rfl, rfl⟩ | ⟨a, len, cap, elems, rest, n', hn, rfl, rfl, _, hl, _, hlen, hel, _, _⟩
  · exact ⟨none, [], 0, rfl, Nat.le_refl _, by simp only [RL], trivial, by simp [Ds.nodesL, Rows.uptoBulk]⟩
  · obtain rfl : n = n' := by omega
    rw [seat_c34] at hel
    cases elems with
    | nil =>
      simp only [List.length_nil] at hlen
      subst hlen
      exact ⟨some a, [], cap, rfl, Nat.zero_le _, by simp only [RL], trivial, by simp [Ds.nodesL, Rows.uptoBulk]⟩
    | cons y0 r0 =>
      have h00 := hel 0 (by rw [← hlen]; simp)
      obtain ⟨cs', hc, ht⟩ := Option.bind_eq_some_iff.1 h00
      obtain ⟨_, _, hat⟩ := World.cells?_some hc
      obtain ⟨v, c0, c1, c2, c3, rfl, _⟩ := IH cs' y0 ht
      have e0 := hat 0 (by decide)
      obtain ⟨b, o, spot⟩ := a
      have hspot : spot = none := by
        have := World.cell?_spot e0
        simpa [Addr.add] using this
      subst hspot
      obtain ⟨l, h1, h2, h3, h4⟩ := all_le IH b o (y0 :: r0) 0 (fun j y hy => by
        have hj : j < len := by rw [← hlen]; exact (List.getElem?_eq_some_iff.1 hy).1
        rw [Nat.zero_add, hel j hj, hy])
      refine ⟨some ⟨b, o, none⟩, l, cap, by rw [h1, hlen], by omega, h2, h3, ?_⟩
      simp only [Rows.uptoBulk]
      omega

set_option maxRecDepth 100000 in
theorem open_val : ∀ (fuel : Nat) (cs : List Value) (x : DataW H × List MemPlace), DataW.trod enc Tryd.prog W 0 sp held fuel 34 cs = some x →
    ∃ (v : V) (c0 c1 c2 c3 : Value), cs = [c0, c1, c2, c3] ∧ RV W (fun _ => True) v c0 c1 c2 c3 ∧ Ds.wfV v ∧ 5 * Ds.nodes v ≤ Rows.uptoBulk x.1 := by
  intro fuel
  induction fuel using Nat.strongRecOn with
  | _ fuel ih =>
    intro cs x h
    obtain ⟨xs, n, hn, rfl, hcs, hlen, hg⟩ := DataW.trod_struct Tryd.underlying34 h
    rw [seat_c34] at hcs
    match cs, hcs, xs, hlen with
    | [c0, c1, c2, c3], _, [y0, y1, y2, y3], _ =>
      have g0 := hg 0 _ rfl
      have g1 := hg 1 _ rfl
      have g2 := hg 2 _ rfl
      have g3 := hg 3 _ rfl
      simp only [List.getElem?_cons_zero, List.getElem?_cons_succ] at g0 g1 g2 g3
      obtain ⟨k, e0, rfl, w0⟩ := DataW.trod_int Tryd.underlying3 g0
      obtain ⟨m, e1, rfl, w1⟩ := DataW.trod_int Tryd.underlying3 g1
      obtain ⟨s, e2, rfl, w2⟩ := DataW.trod_string Tryd.underlying9 g2
      cases n with
      | zero => simp [DataW.trod] at g3
      | succ n =>
        obtain ⟨A, l, cap, e3, hlc, hRL, hwl, hnl⟩ := open_list (ih n (by omega)) _ _ g3
        injection e0 with e0 _
        injection e1 with e1 _
        injection e2 with e2 _
        injection e3 with e3 _
        subst e0 e1 e2 e3
        have b0 := int_bounds w0
        have b1 := int_bounds w1
        refine ⟨.mk k m s.data.toList l, _, _, _, _, rfl, ?_, ⟨?_, b0, b1, hwl⟩, ?_⟩
        · simp only [RV]
          exact ⟨trivial, trivial, by cases s; simp, A, cap, rfl, hlc, hRL⟩
        · simp only [maxLen] at w2
          simp only [ByteArray.size] at w2
          simp only [Array.length_toList]
          omega
        · simp only [Ds.nodes, List.map_cons, List.map_nil, Rows.uptoBulk, Rows.uptoBulkAll]
          omega

set_option maxRecDepth 100000 in
/-- a deed that comes as an argument -/
theorem open_deed {r : Reach} {b0 : Nat} {v : Value} {d : DataW H} {p : List MemPlace} (hv : Value.okWide Tryd.prog W r b0 24 v) (h : DataW.Trod enc Tryd.prog W 0 sp held 24 v d p) :
    ∃ (D : D) (A : Option Addr) (cap : Nat), v = .agg #[.int .i64 D.kind, .int .i64 D.a, .int .i64 D.b, .string ⟨D.text.toArray⟩, .slice A D.args.length cap] ∧ D.args.length ≤ cap ∧ RL W (fun _ => True) A 0 D.args ∧
      (-9223372036854775808 ≤ D.kind ∧ D.kind ≤ 9223372036854775807) ∧ (-9223372036854775808 ≤ D.a ∧ D.a ≤ 9223372036854775807) ∧ (-9223372036854775808 ≤ D.b ∧ D.b ≤ 9223372036854775807) ∧ D.text.length ≤ 9223372036854775807 ∧ Ds.wfL D.args ∧ 5 * Ds.nodesL D.args ≤ Rows.uptoBulk d := by
  obtain ⟨cs, rfl, hsz⟩ := okWide_struct Tryd.underlying24 hv
  obtain ⟨l⟩ := cs
  match l, hsz.trans seat_c24 with
  | [c0, c1, c2, c3, c4], _ =>
    obtain ⟨fuel, hf⟩ := h
    obtain ⟨xs, n, _, hx, _, hlen, hg⟩ := DataW.trod_struct Tryd.underlying24 hf
    match xs, hlen with
    | [y0, y1, y2, y3, y4], _ =>
      have g0 := hg 0 _ rfl
      have g1 := hg 1 _ rfl
      have g2 := hg 2 _ rfl
      have g3 := hg 3 _ rfl
      have g4 := hg 4 _ rfl
      simp only [Value.cells, List.getElem?_cons_zero, List.getElem?_cons_succ] at g0 g1 g2 g3 g4
      obtain ⟨k, e0, rfl, w0⟩ := DataW.trod_int Tryd.underlying3 g0
      obtain ⟨a, e1, rfl, w1⟩ := DataW.trod_int Tryd.underlying3 g1
      obtain ⟨b, e2, rfl, w2⟩ := DataW.trod_int Tryd.underlying3 g2
      obtain ⟨s, e3, rfl, w3⟩ := DataW.trod_string Tryd.underlying9 g3
      cases n with
      | zero => simp [DataW.trod] at g4
      | succ n =>
        obtain ⟨A, l, cap, e4, hlc, hRL, hwl, hnl⟩ := open_list (open_val n) _ _ g4
        injection e0 with e0 _
        injection e1 with e1 _
        injection e2 with e2 _
        injection e3 with e3 _
        injection e4 with e4 _
        subst e0 e1 e2 e3 e4
        refine ⟨⟨k, a, b, s.data.toList, l⟩, A, cap, by cases s; simp, hlc, hRL, int_bounds w0, int_bounds w1, int_bounds w2, ?_, hwl, ?_⟩
        · simp only [maxLen] at w3
          simp only [ByteArray.size] at w3
          simp only [Array.length_toList]
          omega
        · simp only [Prod.mk.injEq] at hx
          rw [hx.1]
          simp only [List.map_cons, List.map_nil, Rows.uptoBulk, Rows.uptoBulkAll]
          omega

set_option maxRecDepth 100000 in
/-- a value that comes as an argument -/
theorem open_value {r : Reach} {b0 : Nat} {v : Value} {d : DataW H} {p : List MemPlace} (hv : Value.okWide Tryd.prog W r b0 34 v) (h : DataW.Trod enc Tryd.prog W 0 sp held 34 v d p) :
    ∃ (x : V) (A : Option Addr) (cap : Nat), v = .agg #[.int .i64 x.kind, .int .i64 x.num, .string ⟨x.text.toArray⟩, .slice A x.args.length cap] ∧ x.args.length ≤ cap ∧ RL W (fun _ => True) A 0 x.args ∧ Ds.wfV x ∧ 5 * Ds.nodes x ≤ Rows.uptoBulk d := by
  obtain ⟨cs, rfl, hsz⟩ := okWide_struct Tryd.underlying34 hv
  obtain ⟨fuel, hf⟩ := h
  obtain ⟨x, c0, c1, c2, c3, e, hx, hw, hn⟩ := open_val fuel _ _ hf
  obtain ⟨A, cap, rfl, rfl, rfl, rfl, h1, h2⟩ := hx.form
  refine ⟨x, A, cap, ?_, h1, h2, hw, hn⟩
  obtain ⟨l⟩ := cs
  simp only [Value.cells] at e
  rw [e]

theorem seat_kids : Kids Tryd.prog (· < Tryd.prog.types.size) := kids_rows (by kernel_rfl) (by kernel_rfl)
theorem seat_full : ∀ t e, t < Tryd.prog.types.size → Tryd.prog.underlying t = some (.slice e) → 0 < Tryd.prog.cellsOf e := slices_full_of Tryd.prog (by kernel_rfl)

theorem trodAll_carry {w w' : World} {base : Nat} {sp : Nat → Bool} {held : Bool} : ∀ {ts : List TypeId} {vs : List Value} {ds : List (DataW H)} {ps : List MemPlace}, DataW.TrodAll enc Tryd.prog w base sp held ts vs ds ps → (∀ p ∈ ps, w.sameAt w' p) → DataW.TrodAll enc Tryd.prog w' base sp held ts vs ds ps
  | [], [], [], _, h, _ => h
  | _ :: _, _ :: _, _ :: _, _, ⟨p, q, ⟨n, h1⟩, h2, e⟩, hs => ⟨p, q, ⟨n, DataW.trod_carry n _ _ _ h1 (fun x hx => hs x (by rw [e]; exact List.mem_append_left _ hx))⟩, trodAll_carry h2 (fun x hx => hs x (by rw [e]; exact List.mem_append_right _ hx)), e⟩

/-- behind a call that changes nothing old the arguments read as they did -/
theorem again {W' : World} {ts : List TypeId} {vs : List Value} {ds : List (DataW H)} {ps : List MemPlace} (h : DataW.TrodAll enc Tryd.prog W 0 (fun _ => true) true ts vs ds ps) (hT : ∀ t ∈ ts, t < Tryd.prog.types.size)
    (hlt : ∀ p ∈ ps, p.block < W.heap.size) (hb : Below W.heap.size W W') (sp : Nat → Bool) (hsp : ∀ p ∈ ps, sp p.block = true) : DataW.TrodAll enc Tryd.prog W' 0 sp true ts vs ds ps :=
  trodAll_carry (h.respare seat_kids seat_full hT hsp) (fun p hp => hb.same (hlt p hp))
end
end Go.Proofs.YtbfiejgdgdlciaaDoor

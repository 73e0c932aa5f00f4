/-
  THE READER's value at every text, by induction on the levels that are left.
-/
import Derived.Test.YtbfiejgdgdlciaaDoorW10
import Derived.Test.YtbfiejgdgdlciaaDoorW11
import Derived.Test.YtbfiejgdgdlciaaDoorLaws2
namespace Go.Proofs.YtbfiejgdgdlciaaDoor
open Go.RowKit
open Ds (V Bs D)

def ValueSaid (n : Nat) : Prop := ∀ (b : Nat) (r : Bs) (bad : Bool) (w : World), Rd w b r bad → Env w → 8 ≤ b → r.length ≤ 16777216 → n ≤ 40 →
  Calls Tryd.prog 22 #[.pointer (some ⟨b, 0, none⟩), .int .i64 (41 - (n : Int))] w (VPost b w (Ds.valueF n r bad))

theorem hasP_one (x c : UInt8) (q : Bs) : Ds.hasP [x] (c :: q) = (x == c) := by simp [Ds.hasP, List.isPrefixOf]

theorem tk_no (b : Nat) (p r : Bs) (bad : Bool) (h : Ds.hasP p r = false) :
    Hid (∀ W, Rd W b r bad → Calls Tryd.prog 37 #[.pointer (some ⟨b, 0, none⟩), .string ⟨p.toArray⟩] W fun e w' => e = .returned (.bool false) ∧ W = w') :=
  Lib.hid fun W hW => take_no b p r bad W hW h
theorem tk_yes (b : Nat) (p r r' : Bs) (bad : Bool) (h : Ds.hasP p r = true) (hl : r.length ≤ 16777216) (hr : r.drop p.length = r') :
    Hid (∀ W, Rd W b r bad → Calls Tryd.prog 37 #[.pointer (some ⟨b, 0, none⟩), .string ⟨p.toArray⟩] W fun e w' => e = .returned (.bool true) ∧ Rd w' b r' bad ∧ W.grownBy w' (some b)) :=
  Lib.hid fun W hW => hr ▸ take_yes b p r bad W hW h (by omega)
theorem il (c : UInt8) (x : Bool) (h : Ds.letB c = x) : Hid (∀ W, Calls Tryd.prog 41 #[.int .u8 (c.toNat : Int)] W fun e w' => e = .returned (.bool x) ∧ W = w') :=
  Lib.hid fun W => h ▸ isLetter_calls c W

theorem value_zero : ValueSaid 0 := fun b r bad w h _ _ _ _ => value_deep b r bad (41 - ((0 : Nat) : Int)) w h (by simp)

theorem dropWhile_head (r : Bs) : r.dropWhile Ds.noQ = [] ∨ ∃ r3, r.dropWhile Ds.noQ = 39 :: r3 := by
  induction r with
  | nil => left; rfl
  | cons c r ih =>
    by_cases h : Ds.noQ c = true
    · simp only [List.dropWhile_cons, h, if_true]; exact ih
    · have e : c = 39 := by unfold Ds.noQ at h; simpa using h
      right
      exact ⟨r, by rw [List.dropWhile_cons, if_neg h, e]⟩

theorem value_succ (n : Nat) (ih : ValueSaid n) : ValueSaid (n + 1) := by
  intro b r bad w h he hb8 hl hn
  have hd : (41 : Int) - ((n + 1 : Nat) : Int) ≤ 40 := by omega
  have hd0 : (-100 : Int) ≤ 41 - ((n + 1 : Nat) : Int) := by omega
  have hds : (41 : Int) - ((n + 1 : Nat) : Int) + 1 = 41 - (n : Int) := by omega
  cases r with
  | nil => exact value_empty b bad _ w h hd
  | cons c q =>
    simp only [Ds.valueF]
    have hlq : q.length ≤ 16777215 := by simpa using hl
    cases hu : Ds.hasP [40, 41] (c :: q) with
    | true => rw [if_pos rfl]; exact value_unit b c q bad _ w h hd hl hu
    | false =>
      rw [if_neg (by decide)]
      have HA := tk_no b [40, 41] (c :: q) bad hu
      by_cases h64 : c = 64
      · rw [if_pos h64]
        exact value_ref b c q bad _ w h hd he hb8 _ _ _ HA (tk_yes b [64] (c :: q) q bad (by rw [hasP_one, h64]; rfl) hl rfl) (Lib.hid fun W hW hE => number_calls b q bad W hW (by omega) hE hb8)
      · rw [if_neg h64]
        have HB := tk_no b [64] (c :: q) bad (by rw [hasP_one]; simpa using fun e => h64 e.symm)
        by_cases h39 : c = 39
        · rw [if_pos h39]
          have HC := tk_yes b [39] (c :: q) q bad (by rw [hasP_one, h39]; rfl) hl rfl
          have HW := Lib.hid fun (W : World) (hW : Rd W b q bad) => while_40 b q bad W hW (by omega)
          have hdl := Ds.dropWhile_len Ds.noQ q
          rcases dropWhile_head q with h0 | ⟨r3, h0⟩
          · rw [h0] at HW ⊢
            exact value_text_no b c q bad _ w h hd _ [] HA HB HC HW (tk_no b [39] [] bad rfl)
          · rw [h0] at HW hdl ⊢
            exact value_text_yes b c q bad _ w h hd _ (39 :: r3) r3 HA HB HC HW (tk_yes b [39] (39 :: r3) r3 bad (by rw [hasP_one]; rfl) (by omega) rfl)
        · rw [if_neg h39]
          have HC := tk_no b [39] (c :: q) bad (by rw [hasP_one]; simpa using fun e => h39 e.symm)
          cases hlb : Ds.letB c with
          | false =>
            rw [if_neg (by decide)]
            exact value_int b c q bad _ w h hd he _ _ _ HA HB HC (il c false hlb) (Lib.hid fun W hW hE => number_calls b (c :: q) bad W hW hl hE hb8)
          | true =>
            rw [if_pos rfl]
            have HI := il c true hlb
            have HW := Lib.hid fun (W : World) (hW : Rd W b (c :: q) bad) => while_42 b (c :: q) bad W hW (by omega)
            have hdl := Ds.dropWhile_len Ds.nameB (c :: q)
            generalize (c :: q).dropWhile Ds.nameB = r2 at HW hdl ⊢
            generalize (c :: q).takeWhile Ds.nameB = s at HW ⊢
            unfold Ds.consF
            by_cases hst : s = Ds.trueT
            · rw [if_pos hst]
              exact value_true b c q bad _ w h hd s r2 hst HA HB HC HI HW
            · rw [if_neg hst]
              by_cases hsf : s = Ds.falseT
              · rw [if_pos hsf]
                exact value_false b c q bad _ w h hd s r2 hsf HA HB HC HI HW
              · rw [if_neg hsf]
                have t1 : (s == [116, 114, 117, 101]) = false := by simpa [Ds.trueT] using hst
                have t2 : (s == [102, 97, 108, 115, 101]) = false := by simpa [Ds.falseT] using hsf
                cases h40 : Ds.hasP [40] r2 with
                | false => rw [if_neg (by decide)]; exact value_name b c q bad _ w h hd s r2 t1 t2 HA HB HC HI HW (tk_no b [40] r2 bad h40)
                | true =>
                  rw [if_pos rfl]
                  refine value_cons b c q bad _ w h he hb8 hd hd0 s r2 (by omega) (Ds.hasP1_len h40) t1 t2 (Ds.valueF n) (fun rr => Ds.valueF_len n rr false) HA HB HC HI HW (tk_yes b [40] r2 (r2.drop 1) bad h40 (by omega) rfl) (Lib.hid fun W rr hW hE hrl => ?_) _ _ (Lib.hid ⟨rfl, rfl⟩)
                  rw [hds]
                  exact ih b rr false W hW hE hb8 hrl (by omega)

theorem value_calls : ∀ n, ValueSaid n
  | 0 => value_zero
  | n + 1 => value_succ n (value_calls n)
end Go.Proofs.YtbfiejgdgdlciaaDoor

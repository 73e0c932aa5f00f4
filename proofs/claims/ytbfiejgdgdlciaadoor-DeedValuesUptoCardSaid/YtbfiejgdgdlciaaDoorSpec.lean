/-
  WHAT THE FUNCTIONS OF PACKAGE deed COMPUTE, AS PLAIN LEAN FUNCTIONS over lists of bytes: values as text and back, deeds as lines and back. No program in sight.
-/
import Derived.Lib.ItoaNum
import Derived.Lib.AtoiAll
import Derived.Lib.Join
namespace Go.Proofs.YtbfiejgdgdlciaaDoor.Ds
open Go.Lib (itoa atoiAll atoiSat join)

abbrev Bs := List UInt8

/-- api.Value -/
inductive V where
  | mk (kind num : Int) (text : Bs) (args : List V)

def V.kind : V → Int | .mk k _ _ _ => k
def V.num : V → Int | .mk _ n _ _ => n
def V.text : V → Bs | .mk _ _ t _ => t
def V.args : V → List V | .mk _ _ _ l => l
def zeroV : V := .mk 0 0 [] []

mutual
/-- how many values there are in a value, itself too -/
def nodes : V → Nat
  | .mk _ _ _ l => 1 + nodesL l
def nodesL : List V → Nat
  | [] => 0
  | x :: r => nodes x + nodesL r
end

mutual
/-- numbers are int64's -/
def wfV : V → Prop
  | .mk k n t l => t.length ≤ 9223372036854775807 ∧ (-9223372036854775808 ≤ k ∧ k ≤ 9223372036854775807) ∧ (-9223372036854775808 ≤ n ∧ n ≤ 9223372036854775807) ∧ wfL l
def wfL : List V → Prop
  | [] => True
  | x :: r => wfV x ∧ wfL r
end

def letB (c : UInt8) : Bool := (decide (97 ≤ c) && decide (c ≤ 122)) || (decide (65 ≤ c) && decide (c ≤ 90))
def digB (c : UInt8) : Bool := decide (48 ≤ c) && decide (c ≤ 57)
def nameB (c : UInt8) : Bool := letB c || digB c
def numB (c : UInt8) : Bool := (c == 45) || digB c
def noQ (c : UInt8) : Bool := !(c == 39)
def quoB (c : UInt8) : Bool := !(decide (c < 32)) && !(c == 39)
def plainB (l : Bs) : Bool := l.all nameB && (!l.isEmpty && decide (l.length ≤ 16))
def capB : Bs → Bool
  | c :: _ => decide (65 ≤ c) && decide (c ≤ 90)
  | [] => false
def makerB (l : Bs) : Bool := plainB l && capB l
def quotB (l : Bs) : Bool := l.all quoB && decide (l.length ≤ 64)

def trueT : Bs := [116, 114, 117, 101]
def falseT : Bs := [102, 97, 108, 115, 101]
def boolT (b : Bool) : Bs := if b then trueT else falseT

/-- the texts of some values, and the first error -/
def argsF (f : V → Bs × Int) : List V → List Bs × Int
  | [] => ([], 0)
  | x :: xs => if (f x).2 = 0 then (if (argsF f xs).2 = 0 then ((f x).1 :: (argsF f xs).1, 0) else ([], (argsF f xs).2)) else ([], (f x).2)

def madeF (f : V → Bs × Int) (t : Bs) (l : List V) : Bs × Int :=
  if (argsF f l).2 = 0 then (if l.isEmpty then (t, 0) else (t ++ [40] ++ join (argsF f l).1 [44] ++ [41], 0)) else ([], (argsF f l).2)

/-- deed.text, with so many levels still allowed -/
def textF : Nat → V → Bs × Int
  | 0, _ => ([], 2)
  | n + 1, .mk k num t l =>
    if k = 1 then ([40, 41], 0)
    else if k = 2 then (itoa num, 0)
    else if k = 6 then (64 :: itoa num, 0)
    else if k = 3 then (if num = 0 ∨ num = 1 then (boolT (num == 1), 0) else ([], 3))
    else if k = 4 then (if quotB t then (39 :: (t ++ [39]), 0) else ([], 3))
    else if k = 5 then (if makerB t && decide (l.length ≤ 6) then madeF (textF n) t l else ([], 3))
    else ([], 3)

/-- strconv.Atoi: the number, and whether there is an error -/
def atoiN (s : Bs) : Int × Bool :=
  Go.Lib.NumEnd.casesOn (motive := fun _ => Int × Bool) (atoiAll s) (fun v => (v, false)) (0, true) (atoiSat s, true)

def hasP (p r : Bs) : Bool := p.isPrefixOf r

/-- (*reader).number -/
def numF (r : Bs) (bad : Bool) : Int × Bs × Bool :=
  ((atoiN (r.takeWhile numB)).1, r.dropWhile numB, bad || (atoiN (r.takeWhile numB)).2 || !(itoa (atoiN (r.takeWhile numB)).1 == r.takeWhile numB))

/-- the loop over a constructed value's arguments -/
def loopF (f : Bs → Bool → V × Bs × Bool) : Nat → Bs → Bool → List V × Bs × Bool
  | 0, r, bad => ([], r, bad)
  | m + 1, r, bad =>
    if bad then ([], r, bad)
    else if hasP [41] (f r bad).2.1 then ([(f r bad).1], (f r bad).2.1.drop 1, (f r bad).2.2)
    else if hasP [44] (f r bad).2.1 then ((f r bad).1 :: (loopF f m ((f r bad).2.1.drop 1) (f r bad).2.2).1, (loopF f m ((f r bad).2.1.drop 1) (f r bad).2.2).2)
    else ([(f r bad).1], (f r bad).2.1, true)

/-- a constructed value, behind its name -/
def consF (f : Bs → Bool → V × Bs × Bool) (s r : Bs) (bad : Bool) : V × Bs × Bool :=
  if s = trueT then (.mk 3 1 [] [], r, bad)
  else if s = falseT then (.mk 3 0 [] [], r, bad)
  else if hasP [40] r then (.mk 5 0 s (loopF f r.length (r.drop 1) bad).1, (loopF f r.length (r.drop 1) bad).2)
  else (.mk 5 0 s [], r, bad)

/-- (*reader).value, with so many levels still allowed -/
def valueF : Nat → Bs → Bool → V × Bs × Bool
  | 0, r, _ => (zeroV, r, true)
  | _ + 1, [], _ => (zeroV, [], true)
  | n + 1, c :: q, bad =>
    if hasP [40, 41] (c :: q) then (.mk 1 0 [] [], q.drop 1, bad)
    else if c = 64 then (.mk 6 (numF q bad).1 [] [], (numF q bad).2)
    else if c = 39 then (.mk 4 0 (q.takeWhile noQ) [], (q.dropWhile noQ).drop 1, (q.dropWhile noQ).isEmpty || bad)
    else if letB c then consF (valueF n) ((c :: q).takeWhile nameB) ((c :: q).dropWhile nameB) bad
    else (.mk 2 (numF (c :: q) bad).1 [] [], (numF (c :: q) bad).2)

/-- deed.Value -/
def valF (s : Bs) : V × Int :=
  if (valueF 40 s false).2.2 || !(valueF 40 s false).2.1.isEmpty then (zeroV, 10)
  else if (textF 40 (valueF 40 s false).1).2 = 0 ∧ (textF 40 (valueF 40 s false).1).1 = s then ((valueF 40 s false).1, 0)
  else (zeroV, 10)

/-- deed.Deed -/
structure D where
  kind : Int
  a : Int
  b : Int
  text : Bs
  args : List V
def zeroD : D := ⟨0, 0, 0, [], []⟩

def numbersF (k : Int) : Nat := if k = 8 ∨ k = 12 ∨ k = 13 then 2 else if k = 9 then 0 else 1
def hasTextF (k : Int) : Bool := k == 1 || k == 12
def rightArgsF (d : D) : Bool := if d.kind = 2 then d.args.length == 1 else if d.kind = 1 then decide (d.args.length ≤ 6) else d.args.length == 0
def rightF (d : D) : Bool :=
  (if hasTextF d.kind then plainB d.text else d.text.isEmpty) && (numbersF d.kind == 2 || d.b == 0) && (decide (0 < numbersF d.kind) || d.a == 0) && rightArgsF d

def wordsL : List Bs := [
  [115, 112, 97, 119, 110], [116, 101, 108, 108], [116, 117, 114, 110], [116, 105, 99, 107], [99, 111, 109, 101], [108, 111, 115, 101], [100, 111, 117, 98, 108, 101],
  [109, 111, 118, 101], [99, 111, 108, 108, 101, 99, 116], [104, 111, 108, 100], [102, 114, 101, 101], [110, 97, 109, 101], [103, 111, 115, 115, 105, 112]]

/-- what is printed ahead of the arguments -/
def headF (d : D) : List Bs :=
  wordsL.getD (d.kind.toNat - 1) [] :: (([d.a, d.b].take (numbersF d.kind)).map itoa ++ (if hasTextF d.kind then [d.text] else []))

/-- deed.Print -/
def printF (d : D) : Bs × Int :=
  if 1 ≤ d.kind ∧ d.kind < 14 ∧ rightF d = true then
    (if (argsF (textF 40) d.args).2 = 0 then (join (headF d ++ (argsF (textF 40) d.args).1) [32], 0) else ([], 3))
  else ([], 3)

/-- deed.split: the words so far, the last one apart, whether a quote is open -/
def splitF : List Bs → Bs → Bool → Bs → List Bs
  | done, cur, _, [] => done ++ [cur]
  | done, cur, q, c :: r =>
    if c = 32 ∧ q = false then splitF (done ++ [cur]) [] q r
    else splitF done (cur ++ [c]) (if c = 39 then !q else q) r

def idxF (w : Bs) : Nat → List Bs → Int
  | _, [] => 0
  | i, x :: r => if x = w then (i : Int) + 1 else idxF w (i + 1) r
def kindF (w : Bs) : Int := idxF w 0 wordsL

/-- the arguments of a line -/
def argsP : List Bs → Option (List V)
  | [] => some []
  | s :: r => if (valF s).2 = 0 then (argsP r).map ((valF s).1 :: ·) else none

def textP (k a b : Int) (l : List Bs) : Option D :=
  if hasTextF k then (match l with
    | [] => none
    | t :: r => (argsP r).map fun x => ⟨k, a, b, t, x⟩)
  else (argsP l).map fun x => ⟨k, a, b, [], x⟩

/-- deed.parse -/
def parseF (l : List Bs) : Option D :=
  match l with
  | [] => none
  | w :: r =>
    if kindF w = 0 ∨ r.length < numbersF (kindF w) then none
    else if numbersF (kindF w) = 0 then textP (kindF w) 0 0 r
    else if numbersF (kindF w) = 1 then (if (atoiN (r.getD 0 [])).2 then none else textP (kindF w) (atoiN (r.getD 0 [])).1 0 (r.drop 1))
    else (if (atoiN (r.getD 0 [])).2 then none else if (atoiN (r.getD 1 [])).2 then none else textP (kindF w) (atoiN (r.getD 0 [])).1 (atoiN (r.getD 1 [])).1 (r.drop 2))

/-- deed.Parse -/
def lineF (s : Bs) : D × Int :=
  match parseF (splitF [] [] false s) with
  | none => (zeroD, 10)
  | some d => if (printF d).2 = 0 ∧ (printF d).1 = s then (d, 0) else (zeroD, 10)

mutual
/-- roadkeep1.bareValue -/
def bareF : V → V
  | .mk k n t l => if k = 2 ∨ k = 3 ∨ k = 6 then .mk k n [] [] else if k = 4 then .mk k 0 t [] else if k = 5 then .mk k 0 t (bareL l) else .mk k 0 [] []
def bareL : List V → List V
  | [] => []
  | x :: r => bareF x :: bareL r
end

end Go.Proofs.YtbfiejgdgdlciaaDoor.Ds

import Derived.Test.YgcfaaGreatHeap
namespace Go.Proofs.YgcfaaGreat
open Go.RowKit Bits Bd
set_option linter.unusedVariables false

namespace Bd
/-- build.Op -/
structure Opn where
  kind : Nat
  h : Nat
  i : Nat
  x : Nat
  y : Nat
  n : Nat
  v : Nat
  s : ByteArray
structure Opn.Ok (o : Opn) : Prop where
  kind : o.kind < 256
  h : o.h < 256
  i : o.i < 256
  x : o.x < 256
  y : o.y < 256
  n : o.n < 65536
  v : o.v < 18446744073709551616

def evenP (B : Bld) : Prop := (1 ≤ B.A.length ∧ B.A.length ≤ 256) ∧ (1 ≤ B.obj.length ∧ B.obj.length ≤ 256) ∧ B.up.length = B.obj.length ∧ B.via.length = B.obj.length ∧ B.depth.length = B.obj.length ∧ B.dead.length = B.obj.length

def slotN (p : Ptr) (i : Nat) : Option Nat :=
  if p.kind = 1 ∧ i < p.ptrs then some ((p.at_ + p.data + i) % 65536)
  else if p.kind = 2 ∧ p.code = 6 ∧ i < p.count then some ((p.at_ + i) % 65536)
  else none
def Bld.o (B : Bld) (h : Nat) : Ptr := B.obj.getD h zeroPtr
/-- Builder.slot -/
def slotB (B : Bld) (h i : Nat) : Option Nat :=
  match slotN (B.o h) i with
  | none => none
  | some a => if a < B.A.length then some a else none
/-- Builder.room -/
def roomB (B : Bld) (h i words handles : Nat) : Option Nat :=
  match slotB B h i with
  | none => none
  | some a => if B.A.getD a 0 = 0 ∧ B.depth.getD h 0 < 8 ∧ B.A.length + words ≤ 256 ∧ B.obj.length + handles ≤ 256 then some a else none
def growB (B : Bld) (n : Nat) : Bld := { B with A := B.A ++ List.replicate n 0 }
def markGo (on : Bool) : Nat → Nat → List Nat → List Nat
  | 0, _, s => s
  | k + 1, i, s => if i < 256 then markGo on k (i + 1) (s.set (i / 64) (putN (s.getD (i / 64) 0) (if on then 1 else 0) (i % 64) 1)) else s
def markB (B : Bld) (at_ n : Nat) (on : Bool) : Bld := { B with slot := markGo on ((at_ + n) % 65536 - at_) at_ B.slot }
def hangB (B : Bld) (p : Ptr) (up via depth : Nat) : Bld :=
  { B with obj := B.obj ++ [p], up := B.up ++ [up], via := B.via ++ [via], depth := B.depth ++ [depth], dead := B.dead ++ [false] }
def setA (B : Bld) (i v : Nat) : Bld := { B with A := B.A.set i v }

def newStructB (B : Bld) (op : Opn) : Option Bld :=
  let to := B.A.length
  let p : Ptr := ⟨1, to, op.x, op.y, 0, 0⟩
  match roomB B op.h op.i (words p) 1 with
  | none => none
  | some a => some (hangB (markB (growB (setA B a (mkStruct a to op.x op.y)) (words p)) (to + op.x) op.y true) p op.h op.i (B.depth.getD op.h 0 + 1))
def elems (list d p depth : Nat) : Nat → Nat → Nat → Bld → Bld
  | 0, _, _, B => B
  | k + 1, i, at_, B => elems list d p depth k (i + 1) (at_ + (d + p)) (hangB (markB B (at_ + d) p true) ⟨1, at_, d, p, 0, 0⟩ list i depth)
def newStructsB (B : Bld) (op : Opn) : Option Bld :=
  let d := op.y / 16
  let q := op.y % 16
  let to := B.A.length
  let p : Ptr := ⟨2, to + 1, d, q, 7, op.n⟩
  if d + q = 0 ∧ 0 < op.n then none
  else match roomB B op.h op.i (words p) (1 + op.n) with
  | none => none
  | some a =>
    let depth := B.depth.getD op.h 0 + 1
    some (elems B.obj.length d q depth op.n 0 (to + 1) (hangB (setA (growB (setA B a (mkList a to 7 (op.n * (d + q)))) (words p)) to (mkTag op.n d q)) p op.h op.i depth))
def newListB (B : Bld) (op : Opn) : Option Bld :=
  if op.x = 7 then newStructsB B op
  else
    let to := B.A.length
    let p : Ptr := ⟨2, to, 0, 0, op.x, op.n⟩
    match roomB B op.h op.i (words p) 1 with
    | none => none
    | some a =>
      let B1 := growB (setA B a (mkList a to op.x op.n)) (words p)
      some (hangB (if op.x = 6 then markB B1 to op.n true else B1) p op.h op.i (B.depth.getD op.h 0 + 1))
def bytesGo (z : Nat → Nat) (to : Nat) : Nat → Nat → Bld → Bld
  | 0, _, B => B
  | k + 1, i, B => bytesGo z to k (i + 1) (setA B (to + i / 8) (B.A.getD (to + i / 8) 0 ||| z i * 2 ^ (i % 8 * 8)))
def setTextB (B : Bld) (op : Opn) (content : Bool) (z : Nat → Nat) : Option Bld :=
  if content = true then
    match newListB B ⟨1, op.h, op.i, 2, 0, op.s.size + 1, 0, ByteArray.empty⟩ with
    | none => none
    | some B1 => some (bytesGo z B.A.length op.s.size 0 B1)
  else none
def setDataB (B : Bld) (op : Opn) : Option Bld :=
  let p := B.o op.h
  if ¬ p.kind = 1 ∨ 6 < op.x ∨ op.x = 1 ∨ op.x = 2 then none
  else
    let bit := op.n * 2 ^ op.x
    let a := p.at_ + bit / 64
    if p.data * 64 ≤ bit ∨ B.A.length ≤ a then none
    else some (setA B a (putN (B.A.getD a 0) op.v (bit % 64) (2 ^ op.x)))
def setElemB (B : Bld) (op : Opn) (inside : Bool) : Option Bld :=
  let p := B.o op.h
  let size := width p.code
  if ¬ p.kind = 2 ∨ size = 0 ∨ p.count ≤ op.n ∨ inside = false then none
  else
    let b := op.n * size
    some (setA B (p.at_ + b / 8) (putN (B.A.getD (p.at_ + b / 8) 0) op.v (b % 8 * 8) (size * 8)))
def clearGo : Nat → Nat → List Nat → List Nat
  | 0, _, l => l
  | k + 1, i, l => clearGo k (i + 1) (l.set i 0)
def wipeB (B : Bld) (p : Ptr) : Bld :=
  markB { B with A := clearGo (min (first p + words p) B.A.length - first p) (first p) B.A } (first p) (words p) false
structure Drp where
  found : Bool
  gone : List Bool
  B : Bld
def dropStep (oh oi : Nat) (h : Nat) (d : Drp) : Drp :=
  if d.B.dead.getD h false = false ∧ ((d.found = false ∧ d.B.up.getD h 0 = oh ∧ d.B.via.getD h 0 = oi) ∨ d.gone.getD (d.B.up.getD h 0) false = true)
  then ⟨true, d.gone.set h true, wipeB { d.B with dead := d.B.dead.set h true } (d.B.o h)⟩
  else d
def dropGo (oh oi : Nat) : Nat → Nat → Drp → Drp
  | 0, _, d => d
  | k + 1, h, d => dropGo oh oi k (h + 1) (dropStep oh oi h d)
def dropB (B : Bld) (op : Opn) : Option Bld :=
  match slotB B op.h op.i with
  | none => none
  | some a => if B.A.getD a 0 = 0 then none
    else some (setA (dropGo op.h op.i (B.obj.length - 1) 1 ⟨false, List.replicate 256 false, B⟩).B a 0)
end Bd
end Go.Proofs.YgcfaaGreat

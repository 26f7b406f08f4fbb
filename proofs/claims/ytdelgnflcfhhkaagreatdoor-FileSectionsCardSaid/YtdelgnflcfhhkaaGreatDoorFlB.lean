/-
  Chapter 17: a model's file, in plain: how it is read and how it is written.
-/
import Derived.Test.YtdelgnflcfhhkaaGreatDoorFlA
set_option linter.unusedVariables false
namespace Go.Wk.YtdelgnflcfhhkaaGreatDoor
open Go Go.Wk Go.Proofs

def rTxt : Rdr (List UInt8) := (rNum 1).bind fun n => (rChk (decide (n ≤ 64)) 130).bind fun _ => rRaw n
def rMrg : Rdr Mrg := (rNum 2).bind fun a => (rNum 2).bind fun b => (rNum 2).bind fun c => Rdr.ret (a, b, c)
def rVoc (n : Nat) : Rdr VV := (rRep rTxt n).bind fun l => (rNum 2).bind fun k => (rChk (decide (k ≤ 1024)) 131).bind fun _ => (rRepG rMrg k.toNat).bind fun g => Rdr.ret ⟨l, g⟩
def rRows (many : List Int) : Nat → Rdr (List (List Int8))
  | 0 => Rdr.ret []
  | k + 1 => (rRows many k).bind fun l => (rRow (many.getD k 0)).bind fun a => Rdr.ret (l ++ [a])
def manyQ (s : Shp) : List Int := [s.dim, s.dim * s.dim, s.dim * s.dim, s.dim * s.dim, s.dim * s.dim, s.dim, s.hid * s.dim, s.hid * s.dim, s.hid * s.dim]
def mkBk (l : List Int) (g : List (List Int8)) : Bk (List Int8) :=
  ⟨g.getD 0 [], g.getD 1 [], g.getD 2 [], g.getD 3 [], g.getD 4 [], g.getD 5 [], l.getD 0 0, l.getD 1 0, l.getD 2 0, l.getD 3 0, l.getD 4 0, g.getD 6 [], g.getD 7 [], g.getD 8 [], l.getD 5 0, l.getD 6 0, l.getD 7 0⟩
def rBlk (s : Shp) : Rdr (Bk (List Int8)) := (rRep (rNum 1) 8).bind fun l => (rRows (manyQ s) 9).bind fun g => Rdr.ret (mkBk l g)
def rBody (s : Shp) (h : Int) : Rdr Md :=
  (rNum 1).bind fun es => (rNum 1).bind fun ls => (rVoc s.voc.toNat).bind fun V => (rRow (s.voc * s.dim)).bind fun e => (rRow (s.ctx * h)).bind fun c => (rRow (s.ctx * h)).bind fun n =>
  (rRep (rBlk s) s.lay.toNat).bind fun bs => (rRow 256).bind fun bend => (rRow s.dim).bind fun g => (rRow (s.voc * s.dim)).bind fun u => Rdr.ret ⟨s, V, e, es, c, n, bs, bend, g, u, ls⟩
def mkShp (l : List Int) : Shp := ⟨l.getD 0 0, l.getD 1 0, l.getD 2 0, l.getD 3 0, l.getD 4 0, l.getD 5 0⟩
def rHead : Rdr Shp := (rRep (rNum 2) 6).bind fun l => (rChk (decide (okS (mkShp l))) 160).bind fun _ => Rdr.ret (mkShp l)
def rMod : Rdr Md := rHead.bind fun s => rBody s (halfS s)
theorem good_txt : Good rTxt := good_bind (good_num _) fun n => good_bind (good_chk _ _) fun _ => good_raw _
theorem good_mrg : Good rMrg := good_bind (good_num _) fun a => good_bind (good_num _) fun b => good_bind (good_num _) fun c => good_ret _
theorem good_voc (n : Nat) : Good (rVoc n) := good_bind (good_rep good_txt n) fun l => good_bind (good_num _) fun k => good_bind (good_chk _ _) fun _ => good_bind (good_repG good_mrg _) fun g => good_ret _
theorem good_rows (many : List Int) : ∀ k, Good (rRows many k)
  | 0 => good_ret _
  | k + 1 => good_bind (good_rows many k) fun l => good_bind (good_row _) fun a => good_ret _
theorem good_blk (s : Shp) : Good (rBlk s) := good_bind (good_rep (good_num _) 8) fun l => good_bind (good_rows _ 9) fun g => good_ret _
theorem good_body (s : Shp) (h : Int) : Good (rBody s h) :=
  good_bind (good_num _) fun es => good_bind (good_num _) fun ls => good_bind (good_voc _) fun V => good_bind (good_row _) fun e => good_bind (good_row _) fun c => good_bind (good_row _) fun n =>
  good_bind (good_rep (good_blk s) _) fun bs => good_bind (good_row _) fun bend => good_bind (good_row _) fun g => good_bind (good_row _) fun u => good_ret _
theorem good_head : Good rHead := good_bind (good_rep (good_num _) 6) fun l => good_bind (good_chk _ _) fun _ => good_ret _
theorem good_mod : Good rMod := good_bind good_head fun s => good_body s _
/-- the bytes of a model -/
def encT (t : List UInt8) : List UInt8 := numB t.length 1 ++ t
def encG (g : Mrg) : List UInt8 := numB g.1 2 ++ (numB g.2.1 2 ++ numB g.2.2 2)
def encV (V : VV) : List UInt8 := V.texts.flatMap encT ++ (numB V.merges.length 2 ++ V.merges.flatMap encG)
abbrev Bk.shs {ρ : Type} (b : Bk ρ) : List Int := [b.qs, b.ks, b.vs, b.os, b.ss, b.gas, b.ups, b.dns]
abbrev Bk.frs {ρ : Type} (b : Bk ρ) : List ρ := [b.g1, b.q, b.k, b.v, b.o, b.g2, b.ga, b.up, b.dn]
def encN (b : Int) (n : Int) : List UInt8 := numB n b
def encBk (b : Bk (List Int8)) : List UInt8 := b.shs.flatMap (encN 1) ++ b.frs.flatMap wrwB
abbrev Shp.nums (s : Shp) : List Int := [s.voc, s.ctx, s.dim, s.hds, s.lay, s.hid]
def encS (s : Shp) : List UInt8 := s.nums.flatMap (encN 2)
def encBody (m : Md) : List UInt8 :=
  numB m.es 1 ++ (numB m.ls 1 ++ (encV m.V ++ (wrwB m.e ++ (wrwB m.cos ++ (wrwB m.sin ++ (m.bs.flatMap encBk ++ (wrwB m.bend ++ (wrwB m.gain ++ wrwB m.un))))))))
def encM (m : Md) : List UInt8 := encS m.s ++ encBody m
def MAGIC : List UInt8 := [72, 69, 82, 65, 76, 68, 0, 1]
def encQ (m : Md) : List UInt8 := MAGIC ++ encM m
def sumB (s : List UInt8) : List UInt8 := leB (fnvL s) 8
def fileQ (m : Md) : List UInt8 := encQ m ++ sumB (encQ m)
/-- Encode's answer -/
def encA (m : Md) : List UInt8 × Int := if (validQ m).2.2 = 0 then (fileQ m, 0) else ([], (validQ m).2.2)
/-- Decode's answer -/
def endE (t : List UInt8) (x : Sc) : Int := if x.e = 0 then if x.i < t.length then 13 else 0 else x.e
def decT (t : List UInt8) : Md × Int :=
  if endE t (rMod t ⟨0, 0⟩).1 = 0 then if (validQ (rMod t ⟨0, 0⟩).2).2.2 = 0 then ((rMod t ⟨0, 0⟩).2, 0) else (zM.p, (validQ (rMod t ⟨0, 0⟩).2).2.2) else (zM.p, endE t (rMod t ⟨0, 0⟩).1)
def midQ (s : List UInt8) : List UInt8 := cut s 8 (s.length - 8 - 8)
def decA (s : List UInt8) : Md × Int :=
  if s.length < 16 then (zM.p, 11) else if s.take 8 ≠ MAGIC then (zM.p, 170) else if sumB (s.take (s.length - 8)) ≠ s.drop (s.length - 8) then (zM.p, 171) else decT (midQ s)
end Go.Wk.YtdelgnflcfhhkaaGreatDoor

/- Texts joined: VyLf VyLg VyM3 VyLh VyLi. -/
import Derived.Test.YtmbonddknackiaaVm39
set_option linter.unusedSimpArgs false
set_option linter.unusedVariables false
section
open Go Go.Vx Go.Proofs
set_option maxRecDepth 10000
set_option maxHeartbeats 8000000
namespace Go.Vx.Seat
attribute [local irreducible] Rg Rt Ro Ri Rc Ds Dt Dw Dx Rw Rl Rd Av An kf
theorem f7:By C1.P.funcs.toList 103=some Try.f103:=by kernel_rfl
theorem Wy (x:Int) (h1: -200000000000≤x) (h2:x≤200000000000):AS C1 98 [yd (.int .i64 x)] fun y=>∃s:ByteArray,y=yd (.string s)∧(AA s).length≤x.natAbs+2:=by
 by_cases h0:0≤x
 ·obtain ⟨n,rfl⟩:=Int.eq_ofNat_of_zero_le h0
  exact (So n (by omega)).mono fun y ⟨s,h3,h4⟩=>⟨s,h3,by omega⟩
 ·refine Pf (by rfl) (by rfl) fI (by rfl) ?_
  simp only [Try.f98,List.length_cons,List.length_nil,List.replicate,List.cons_append,List.nil_append]
  have t0:AN 0 x=false:=AE (by omega)
  have w0:IntKind.wrap .i64 (0 - x)=((x.natAbs:Nat):Int):=by rw [IntKind.wrap_i64];omega
  simp -implicitDefEqProofs only [↓yP,yT,t0,w0]
  refine AB (So x.natAbs (by omega)) (by rfl) fun y hy=>?_
  obtain ⟨s,rfl,hs⟩:=hy
  have b1:(AA ⟨#[45]⟩).length+(AA s).length≤140737488355328:=by
   have:(AA ⟨#[45]⟩).length=1:=rfl
   omega
  simp -implicitDefEqProofs only [↓yP,yT,reduceCtorEq,Bk,b1]
  exact ⟨_,rfl,by rw [AD,List.length_append];have:(AA ⟨#[45]⟩).length=1:=rfl;omega⟩
abbrev nm (b:Bool) (d x:ByteArray):List Ce:=[.p (.d (.bool b)),.p (.d (.string d)),.p (.d (.string x))]
def nG (y:YV):Prop:=∃(b:Bool) (d x:ByteArray) (ok:Bool),y=.tup [.agg (nm b d x),yd (.bool ok)]
theorem Qw (s:ByteArray) (i k:Nat):(AA (AI (((AA s).drop i).take (k - i)))).length≤(AA s).length:=by
 rw [AD];simp;omega
theorem RP (s:ByteArray) (hs:(AA s).length≤800000000):AS C1 103 [yd (.string s)] nG:=by
 have i00:Int.toNat 0=0:=rfl
 refine Pf (by rfl) (by rfl) f7 (by rfl) ?_
 simp only [Try.f103,List.length_cons,List.length_nil,List.replicate,List.cons_append,List.nil_append]
 simp -implicitDefEqProofs only [↓yP,yT,Nat.reduceAdd,Nat.reduceLeDiff,reduceCtorEq,AY.eq_1]
 refine HH (fun e st=>∃(i:Nat) (neg:Bool),(∃g:Nat→YV,e=[yd (.string s),g 1,.c (.ptr 0 0 0 0),g 3,yd (.int .i64 (i:Nat)),.c (.ptr 1 0 0 0),g 6,g 7,g 8,g 9,g 10,g 11,g 12,g 13,g 14,g 15,g 16,g 17,g 18,g 19,g 20,g 21,g 22,g 23,g 24,g 25,g 26,g 27,g 28,g 29,g 30,g 31,g 32,g 33,g 34,g 35,g 36,g 37,g 38,g 39,g 40,g 41,g 42,g 43,g 44,g 45,g 46,g 47,g 48,g 49,g 50,g 51,g 52,g 53,g 54,g 55,g 56,g 57,g 58,g 59,g 60,g 61,g 62,g 63,g 64,g 65,g 66,g 67,g 68,g 69,g 70,g 71,g 72,g 73,g 74,g 75,g 76,g 77,g 78,g 79,g 80,g 81,g 82,g 83,g 84,g 85,g 86,g 87,g 88,g 89,g 90,g 91,g 92,g 93,g 94,g 95,g 96,g 97,g 98,g 99,g 100,g 101,g 102,g 103,g 104,g 105,g 106,g 107,g 108,g 109,g 110,g 111,g 112,g 113,g 114,g 115,g 116,g 117,g 118,g 119,g 120,g 121,g 122,g 123,g 124,g 125,g 126,g 127,g 128,g 129,g 130,g 131,g 132,g 133,g 134,g 135,g 136,g 137,g 138,g 139,g 140,g 141,g 142,g 143,g 144,g 145,g 146,g 147,g 148,g 149,g 150,g 151,g 152,g 153,g 154,g 155,g 156,g 157,g 158,g 159,g 160,g 161,g 162,g 163,g 164,g 165,g 166,g 167,g 168,g 169,g 170,g 171,g 172,g 173,g 174,g 175,g 176,g 177])∧st=[.box (nm false ⟨#[]⟩ ⟨#[]⟩),.box (nm neg ⟨#[]⟩ ⟨#[]⟩)]∧i≤(AA s).length) ?_ ?_
 ·have w01:AG .i64 (0+1)=((0+1:Nat):Int):=rfl
  by_cases h0:0<(AA s).length
  ·obtain ⟨c,hc⟩:=get_lt h0
   have t1:AN ((AA s).length:Nat) 0=false:=AE (by omega)
   have c1:(0:Int)≤0:=by omega
   cases h1:AJ (c.toNat:Nat) 43 with
   |true=>
    cases h2:AJ (c.toNat:Nat) 45
    all_goals
     simp -implicitDefEqProofs only [↓yP,yT,Nat.reduceAdd,Nat.reduceLeDiff,AV.eq_1,t1,c1,hc,h1,h2,w01,Ae,i00]
     exact ⟨1,_,BB rfl,rfl,by omega⟩
   |false=>
    cases h2:AJ (c.toNat:Nat) 45 with
    |true=>
     simp -implicitDefEqProofs only [↓yP,yT,Nat.reduceAdd,Nat.reduceLeDiff,AV.eq_1,t1,c1,hc,h1,h2,w01,Ae,i00]
     exact ⟨1,_,BB rfl,rfl,by omega⟩
    |false=>
     simp -implicitDefEqProofs only [↓yP,yT,AV.eq_1,t1,c1,hc,h1,h2,Ae,i00]
     exact ⟨0,_,BB rfl,rfl,by omega⟩
  ·have t1:AN ((AA s).length:Nat) 0=true:=AH (by omega)
   simp -implicitDefEqProofs only [↓yP,yT,t1,Ae]
   exact ⟨0,_,BB rfl,rfl,by omega⟩
 rintro e st ⟨i,neg,⟨g,rfl⟩,rfl,hi⟩
 simp -implicitDefEqProofs only [↓yP,yT]
 refine AB (Ke s i (by omega) hi) (by rfl) fun y hy=>?_
 obtain ⟨k,rfl,hk1,hk2⟩:=hy
 have c1:(0:Int)≤(i:Nat):=by omega
 have c2:((i:Nat):Int)≤(k:Nat):=by omega
 have c3:((k:Nat):Int)≤((AA s).length:Nat):=by omega
 have hdl:=Qw s i k
 simp -implicitDefEqProofs only [↓yP,yT,AY.eq_1,Aw.eq_1,c1,c2,c3]
 generalize AI (((AA s).drop i).take (k - i))=dd at hdl ⊢
 have w1:AG .i64 ((k:Int)+1)=((k+1:Nat):Int):=AK (by omega)
 refine HH (fun e st=>∃(k:Nat) (part:ByteArray),(∃g:Nat→YV,e=[yd (.string s),g 1,.c (.ptr 0 0 0 0),g 3,g 4,.c (.ptr 1 0 0 0),yd (.int .i64 (k:Nat)),yd (.string dd),yd (.string part),g 9,g 10,g 11,g 12,g 13,g 14,g 15,g 16,g 17,g 18,g 19,g 20,g 21,g 22,g 23,g 24,g 25,g 26,g 27,g 28,g 29,g 30,g 31,g 32,g 33,g 34,g 35,g 36,g 37,g 38,g 39,g 40,g 41,g 42,g 43,g 44,g 45,g 46,g 47,g 48,g 49,g 50,g 51,g 52,g 53,g 54,g 55,g 56,g 57,g 58,g 59,g 60,g 61,g 62,g 63,g 64,g 65,g 66,g 67,g 68,g 69,g 70,g 71,g 72,g 73,g 74,g 75,g 76,g 77,g 78,g 79,g 80,g 81,g 82,g 83,g 84,g 85,g 86,g 87,g 88,g 89,g 90,g 91,g 92,g 93,g 94,g 95,g 96,g 97,g 98,g 99,g 100,g 101,g 102,g 103,g 104,g 105,g 106,g 107,g 108,g 109,g 110,g 111,g 112,g 113,g 114,g 115,g 116,g 117,g 118,g 119,g 120,g 121,g 122,g 123,g 124,g 125,g 126,g 127,g 128,g 129,g 130,g 131,g 132,g 133,g 134,g 135,g 136,g 137,g 138,g 139,g 140,g 141,g 142,g 143,g 144,g 145,g 146,g 147,g 148,g 149,g 150,g 151,g 152,g 153,g 154,g 155,g 156,g 157,g 158,g 159,g 160,g 161,g 162,g 163,g 164,g 165,g 166,g 167,g 168,g 169,g 170,g 171,g 172,g 173,g 174,g 175,g 176,g 177])∧st=[.box (nm false ⟨#[]⟩ ⟨#[]⟩),.box (nm neg ⟨#[]⟩ ⟨#[]⟩)]∧k≤(AA s).length∧(AA part).length≤(AA s).length) ?_ ?_
 ·by_cases h0:k<(AA s).length
  ·obtain ⟨c,hc⟩:=get_lt h0
   have t1:AN ((AA s).length:Nat) (k:Nat)=false:=AE (by omega)
   have c4:(0:Int)≤(k:Nat):=by omega
   cases h1:AJ (c.toNat:Nat) 46 with
   |false=>
    simp -implicitDefEqProofs only [↓yP,yT,AV.eq_1,t1,c4,hc,h1,Ae]
    exact ⟨k,⟨#[]⟩,BB rfl,by omega,by show 0≤(AA s).length;omega⟩
   |true=>
    simp -implicitDefEqProofs only [↓yP,yT,AV.eq_1,t1,c4,hc,h1,w1]
    refine AB (Ke s (k+1) (by omega) (by omega)) (by rfl) fun y hy=>?_
    obtain ⟨j,rfl,hj1,hj2⟩:=hy
    have c5:(0:Int)≤((k+1:Nat):Int):=by omega
    have c6:((k+1:Nat):Int)≤(j:Nat):=by omega
    have c7:((j:Nat):Int)≤((AA s).length:Nat):=by omega
    have hpl:=Qw s (k+1) j
    simp -implicitDefEqProofs only [↓yP,yT,Aw.eq_1,w1,c5,c6,c7,At]
    generalize AI (((AA s).drop (k+1)).take (j - (k+1)))=part at hpl ⊢
    cases h2:(AA part==AA ⟨#[]⟩) with
    |true=>
     simp -implicitDefEqProofs only [↓yP,yT,Nat.reduceAdd,reduceCtorEq]
     exact ⟨_,_,_,_,rfl⟩
    |false=>
     simp -implicitDefEqProofs only [↓yP,yT,Ae]
     exact ⟨j,part,BB rfl,hj2,hpl⟩
  ·have t1:AN ((AA s).length:Nat) (k:Nat)=true:=AH (by omega)
   simp -implicitDefEqProofs only [↓yP,yT,t1,Ae]
   exact ⟨k,⟨#[]⟩,BB rfl,by omega,by show 0≤(AA s).length;omega⟩
 clear w1 c1 c2 c3 hk1 hk2 hi k i
 rintro e st ⟨k,part,⟨g,rfl⟩,rfl,hk,hpl⟩
 have b1:(AA dd).length+(AA part).length≤140737488355328:=by omega
 cases h2:(AA (AI (AA dd++AA part))==AA ⟨#[]⟩) with
 |true=>
  simp -implicitDefEqProofs only [↓yP,yT,Nat.reduceAdd,reduceCtorEq,Bk,b1,At,h2]
  exact ⟨_,_,_,_,rfl⟩
 |false=>
 simp -implicitDefEqProofs only [↓yP,yT,AY.eq_1,Bk,b1,At,h2]
 have w1:AG .i64 ((k:Int)+1)=((k+1:Nat):Int):=AK (by omega)
 refine HH (fun e st=>∃(k:Nat) (ex:ByteArray),(∃g:Nat→YV,e=[yd (.string s),g 1,.c (.ptr 0 0 0 0),g 3,g 4,.c (.ptr 1 0 0 0),yd (.int .i64 (k:Nat)),yd (.string dd),yd (.string part),g 9,yd (.string ex),g 11,g 12,g 13,g 14,g 15,g 16,g 17,g 18,g 19,g 20,g 21,g 22,g 23,g 24,g 25,g 26,g 27,g 28,g 29,g 30,g 31,g 32,g 33,g 34,g 35,g 36,g 37,g 38,g 39,g 40,g 41,g 42,g 43,g 44,g 45,g 46,g 47,g 48,g 49,g 50,g 51,g 52,g 53,g 54,g 55,g 56,g 57,g 58,g 59,g 60,g 61,g 62,g 63,g 64,g 65,g 66,g 67,g 68,g 69,g 70,g 71,g 72,g 73,g 74,g 75,g 76,g 77,g 78,g 79,g 80,g 81,g 82,g 83,g 84,g 85,g 86,g 87,g 88,g 89,g 90,g 91,g 92,g 93,g 94,g 95,g 96,g 97,g 98,g 99,g 100,g 101,g 102,g 103,g 104,g 105,g 106,g 107,g 108,g 109,g 110,g 111,g 112,g 113,g 114,g 115,g 116,g 117,g 118,g 119,g 120,g 121,g 122,g 123,g 124,g 125,g 126,g 127,g 128,g 129,g 130,g 131,g 132,g 133,g 134,g 135,g 136,g 137,g 138,g 139,g 140,g 141,g 142,g 143,g 144,g 145,g 146,g 147,g 148,g 149,g 150,g 151,g 152,g 153,g 154,g 155,g 156,g 157,g 158,g 159,g 160,g 161,g 162,g 163,g 164,g 165,g 166,g 167,g 168,g 169,g 170,g 171,g 172,g 173,g 174,g 175,g 176,g 177])∧st=[.box (nm false ⟨#[]⟩ ⟨#[]⟩),.box (nm neg ⟨#[]⟩ ⟨#[]⟩)]∧k≤(AA s).length∧(AA ex).length≤(AA s).length+1) ?_ ?_
 ·by_cases h0:k<(AA s).length
  ·obtain ⟨c,hc⟩:=get_lt h0
   have t1:AN ((AA s).length:Nat) (k:Nat)=false:=AE (by omega)
   have c4:(0:Int)≤(k:Nat):=by omega
   cases h1:AJ (c.toNat:Nat) 101 with
   |true=>
    simp -implicitDefEqProofs only [↓yP,yT,AY.eq_1,AV.eq_1,t1,c4,hc,h1,w1]
    refine HH (fun e st=>∃(k2:Nat) (mi:Bool),(∃g:Nat→YV,e=[yd (.string s),g 1,.c (.ptr 0 0 0 0),g 3,g 4,.c (.ptr 1 0 0 0),yd (.int .i64 (k2:Nat)),yd (.string dd),yd (.string part),g 9,g 10,yd (.bool mi),g 12,g 13,g 14,g 15,g 16,g 17,g 18,g 19,g 20,g 21,g 22,g 23,g 24,g 25,g 26,g 27,g 28,g 29,g 30,g 31,g 32,g 33,g 34,g 35,g 36,g 37,g 38,g 39,g 40,g 41,g 42,g 43,g 44,g 45,g 46,g 47,g 48,g 49,g 50,g 51,g 52,g 53,g 54,g 55,g 56,g 57,g 58,g 59,g 60,g 61,g 62,g 63,g 64,g 65,g 66,g 67,g 68,g 69,g 70,g 71,g 72,g 73,g 74,g 75,g 76,g 77,g 78,g 79,g 80,g 81,g 82,g 83,g 84,g 85,g 86,g 87,g 88,g 89,g 90,g 91,g 92,g 93,g 94,g 95,g 96,g 97,g 98,g 99,g 100,g 101,g 102,g 103,g 104,g 105,g 106,g 107,g 108,g 109,g 110,g 111,g 112,g 113,g 114,g 115,g 116,g 117,g 118,g 119,g 120,g 121,g 122,g 123,g 124,g 125,g 126,g 127,g 128,g 129,g 130,g 131,g 132,g 133,g 134,g 135,g 136,g 137,g 138,g 139,g 140,g 141,g 142,g 143,g 144,g 145,g 146,g 147,g 148,g 149,g 150,g 151,g 152,g 153,g 154,g 155,g 156,g 157,g 158,g 159,g 160,g 161,g 162,g 163,g 164,g 165,g 166,g 167,g 168,g 169,g 170,g 171,g 172,g 173,g 174,g 175,g 176,g 177])∧st=[.box (nm false ⟨#[]⟩ ⟨#[]⟩),.box (nm neg ⟨#[]⟩ ⟨#[]⟩)]∧k2≤(AA s).length) ?_ ?_
    ·clear t1 c4 hc
     have w2:AG .i64 (((k+1:Nat):Int)+1)=((k+2:Nat):Int):=AK (by omega)
     by_cases h3:k+1<(AA s).length
     ·obtain ⟨c,hc⟩:=get_lt h3
      have t1:AN ((AA s).length:Nat) ((k+1:Nat):Int)=false:=AE (by omega)
      have c1:(0:Int)≤((k+1:Nat):Int):=by omega
      cases h1:AJ (c.toNat:Nat) 43 with
      |true=>
       cases h2:AJ (c.toNat:Nat) 45
       all_goals
        simp -implicitDefEqProofs only [↓yP,yT,AV.eq_1,t1,c1,hc,h1,h2,w2,Ae]
        exact ⟨k+2,_,BB rfl,by omega⟩
      |false=>
       cases h2:AJ (c.toNat:Nat) 45 with
       |true=>
        simp -implicitDefEqProofs only [↓yP,yT,AV.eq_1,t1,c1,hc,h1,h2,w2,Ae]
        exact ⟨k+2,_,BB rfl,by omega⟩
       |false=>
        simp -implicitDefEqProofs only [↓yP,yT,AV.eq_1,t1,c1,hc,h1,h2,Ae]
        exact ⟨k+1,_,BB rfl,by omega⟩
     ·have t1:AN ((AA s).length:Nat) ((k+1:Nat):Int)=true:=AH (by omega)
      simp -implicitDefEqProofs only [↓yP,yT,t1,Ae]
      exact ⟨k+1,_,BB rfl,by omega⟩
    rintro e st ⟨k2,mi,⟨g,rfl⟩,rfl,hk2⟩
    simp -implicitDefEqProofs only [↓yP,yT]
    refine AB (Ke s k2 (by omega) hk2) (by rfl) fun y hy=>?_
    obtain ⟨j,rfl,hj1,hj2⟩:=hy
    have c5:(0:Int)≤((k2:Nat):Int):=by omega
    have c6:((k2:Nat):Int)≤(j:Nat):=by omega
    have c7:((j:Nat):Int)≤((AA s).length:Nat):=by omega
    have hpl:=Qw s k2 j
    cases h7:AJ (j:Nat) (k2:Nat) with
    |true=>
     simp -implicitDefEqProofs only [↓yP,yT,Nat.reduceAdd,reduceCtorEq,h7]
     exact ⟨_,_,_,_,rfl⟩
    |false=>
     simp -implicitDefEqProofs only [↓yP,yT,Aw.eq_1,h7,c5,c6,c7]
     refine AB (G8 _ (by omega)) (by rfl) fun y hy=>?_
     obtain ⟨ex,rfl,hex⟩:=hy
     cases mi with
     |false=>
      simp -implicitDefEqProofs only [↓yP,yT,Ae]
      exact ⟨j,ex,BB rfl,hj2,by omega⟩
     |true=>
      cases h8:(AA ex==AA ⟨#[48]⟩) with
      |true=>
       simp -implicitDefEqProofs only [↓yP,yT,AU,h8,Ae]
       exact ⟨j,ex,BB rfl,hj2,by omega⟩
      |false=>
       have b3:(AA ⟨#[45]⟩).length+(AA ex).length≤140737488355328:=by
        have:(AA ⟨#[45]⟩).length=1:=rfl
        omega
       simp -implicitDefEqProofs only [↓yP,yT,AU,h8,Bk,b3,Ae]
       exact ⟨j,_,BB rfl,hj2,by rw [AD,List.length_append];have:(AA ⟨#[45]⟩).length=1:=rfl;omega⟩
   |false=>
    cases h2:AJ (c.toNat:Nat) 69 with
    |true=>
     simp -implicitDefEqProofs only [↓yP,yT,AY.eq_1,AV.eq_1,t1,c4,hc,h1,h2,w1]
     refine HH (fun e st=>∃(k2:Nat) (mi:Bool),(∃g:Nat→YV,e=[yd (.string s),g 1,.c (.ptr 0 0 0 0),g 3,g 4,.c (.ptr 1 0 0 0),yd (.int .i64 (k2:Nat)),yd (.string dd),yd (.string part),g 9,g 10,yd (.bool mi),g 12,g 13,g 14,g 15,g 16,g 17,g 18,g 19,g 20,g 21,g 22,g 23,g 24,g 25,g 26,g 27,g 28,g 29,g 30,g 31,g 32,g 33,g 34,g 35,g 36,g 37,g 38,g 39,g 40,g 41,g 42,g 43,g 44,g 45,g 46,g 47,g 48,g 49,g 50,g 51,g 52,g 53,g 54,g 55,g 56,g 57,g 58,g 59,g 60,g 61,g 62,g 63,g 64,g 65,g 66,g 67,g 68,g 69,g 70,g 71,g 72,g 73,g 74,g 75,g 76,g 77,g 78,g 79,g 80,g 81,g 82,g 83,g 84,g 85,g 86,g 87,g 88,g 89,g 90,g 91,g 92,g 93,g 94,g 95,g 96,g 97,g 98,g 99,g 100,g 101,g 102,g 103,g 104,g 105,g 106,g 107,g 108,g 109,g 110,g 111,g 112,g 113,g 114,g 115,g 116,g 117,g 118,g 119,g 120,g 121,g 122,g 123,g 124,g 125,g 126,g 127,g 128,g 129,g 130,g 131,g 132,g 133,g 134,g 135,g 136,g 137,g 138,g 139,g 140,g 141,g 142,g 143,g 144,g 145,g 146,g 147,g 148,g 149,g 150,g 151,g 152,g 153,g 154,g 155,g 156,g 157,g 158,g 159,g 160,g 161,g 162,g 163,g 164,g 165,g 166,g 167,g 168,g 169,g 170,g 171,g 172,g 173,g 174,g 175,g 176,g 177])∧st=[.box (nm false ⟨#[]⟩ ⟨#[]⟩),.box (nm neg ⟨#[]⟩ ⟨#[]⟩)]∧k2≤(AA s).length) ?_ ?_
     ·clear t1 c4 hc
      have w2:AG .i64 (((k+1:Nat):Int)+1)=((k+2:Nat):Int):=AK (by omega)
      by_cases h3:k+1<(AA s).length
      ·obtain ⟨c,hc⟩:=get_lt h3
       have t1:AN ((AA s).length:Nat) ((k+1:Nat):Int)=false:=AE (by omega)
       have c1:(0:Int)≤((k+1:Nat):Int):=by omega
       cases h1:AJ (c.toNat:Nat) 43 with
       |true=>
        cases h2:AJ (c.toNat:Nat) 45
        all_goals
         simp -implicitDefEqProofs only [↓yP,yT,AV.eq_1,t1,c1,hc,h1,h2,w2,Ae]
         exact ⟨k+2,_,BB rfl,by omega⟩
       |false=>
        cases h2:AJ (c.toNat:Nat) 45 with
        |true=>
         simp -implicitDefEqProofs only [↓yP,yT,AV.eq_1,t1,c1,hc,h1,h2,w2,Ae]
         exact ⟨k+2,_,BB rfl,by omega⟩
        |false=>
         simp -implicitDefEqProofs only [↓yP,yT,AV.eq_1,t1,c1,hc,h1,h2,Ae]
         exact ⟨k+1,_,BB rfl,by omega⟩
      ·have t1:AN ((AA s).length:Nat) ((k+1:Nat):Int)=true:=AH (by omega)
       simp -implicitDefEqProofs only [↓yP,yT,t1,Ae]
       exact ⟨k+1,_,BB rfl,by omega⟩
     rintro e st ⟨k2,mi,⟨g,rfl⟩,rfl,hk2⟩
     simp -implicitDefEqProofs only [↓yP,yT]
     refine AB (Ke s k2 (by omega) hk2) (by rfl) fun y hy=>?_
     obtain ⟨j,rfl,hj1,hj2⟩:=hy
     have c5:(0:Int)≤((k2:Nat):Int):=by omega
     have c6:((k2:Nat):Int)≤(j:Nat):=by omega
     have c7:((j:Nat):Int)≤((AA s).length:Nat):=by omega
     have hpl:=Qw s k2 j
     cases h7:AJ (j:Nat) (k2:Nat) with
     |true=>
      simp -implicitDefEqProofs only [↓yP,yT,Nat.reduceAdd,reduceCtorEq,h7]
      exact ⟨_,_,_,_,rfl⟩
     |false=>
      simp -implicitDefEqProofs only [↓yP,yT,Aw.eq_1,h7,c5,c6,c7]
      refine AB (G8 _ (by omega)) (by rfl) fun y hy=>?_
      obtain ⟨ex,rfl,hex⟩:=hy
      cases mi with
      |false=>
       simp -implicitDefEqProofs only [↓yP,yT,Ae]
       exact ⟨j,ex,BB rfl,hj2,by omega⟩
      |true=>
       cases h8:(AA ex==AA ⟨#[48]⟩) with
       |true=>
        simp -implicitDefEqProofs only [↓yP,yT,AU,h8,Ae]
        exact ⟨j,ex,BB rfl,hj2,by omega⟩
       |false=>
        have b3:(AA ⟨#[45]⟩).length+(AA ex).length≤140737488355328:=by
         have:(AA ⟨#[45]⟩).length=1:=rfl
         omega
        simp -implicitDefEqProofs only [↓yP,yT,AU,h8,Bk,b3,Ae]
        exact ⟨j,_,BB rfl,hj2,by rw [AD,List.length_append];have:(AA ⟨#[45]⟩).length=1:=rfl;omega⟩
    |false=>
     simp -implicitDefEqProofs only [↓yP,yT,AV.eq_1,t1,c4,hc,h1,h2,Ae]
     exact ⟨k,_,BB rfl,by omega,by show 1≤_;omega⟩
  ·have t1:AN ((AA s).length:Nat) (k:Nat)=true:=AH (by omega)
   simp -implicitDefEqProofs only [↓yP,yT,t1,Ae]
   exact ⟨k,_,BB rfl,by omega,by show 1≤_;omega⟩
 clear w1 k hk
 rintro e st ⟨k,ex,⟨g,rfl⟩,rfl,hk,hel⟩
 by_cases hkl:k=(AA s).length
 ·have t1:AJ (k:Nat) ((AA s).length:Nat)=true:=by rw [hkl];exact CV _
  have wx:IntKind.wrap .i64 (0 - ((AA part).length:Nat))=0 - ((AA part).length:Nat):=by rw [IntKind.wrap_i64];omega
  simp -implicitDefEqProofs only [↓yP,yT,AY.eq_1,t1,Bk,b1]
  refine AB (G8 _ (by rw [AD,List.length_append];omega)) (by rfl) fun y hy=>?_
  obtain ⟨al,rfl,hal⟩:=hy
  rw [AD,List.length_append] at hal
  simp -implicitDefEqProofs only [↓yP,yT,AY.eq_1,wx]
  refine Ah (fun d e st=>∃(al:ByteArray) (x:Int),e=([Tp,Tp,.c (.ptr 0 0 0 0),Tp,Tp,.c (.ptr 1 0 0 0),Tp,Tp,Tp,Tp,yd (.string ex),Tp,Tp,yd (.string al),yd (.int .i64 x),Tp,Tp,Tp,Tp,Tp,Tp,Tp,Tp,Tp,Tp,Tp,Tp,Tp,Tp,Tp,Tp,Tp,Tp,Tp,Tp,Tp,Tp,Tp,Tp,Tp,Tp,Tp,Tp,Tp,Tp,Tp,Tp,Tp,Tp,Tp,Tp,Tp,Tp,Tp,Tp,Tp,Tp,Tp,Tp,Tp,Tp,Tp,Tp,Tp,Tp,Tp,Tp,Tp,Tp,Tp,Tp,Tp,Tp,Tp,Tp,Tp,Tp,Tp,Tp,Tp,Tp,Tp,Tp,Tp,Tp,Tp,Tp,Tp,Tp,Tp,Tp,Tp,Tp,Tp,Tp,Tp,Tp,Tp,Tp,Tp,Tp,Tp,Tp,Tp,Tp,Tp,Tp,Tp,Tp,Tp,Tp,Tp,Tp,Tp,Tp,Tp,Tp,Tp,Tp,Tp,Tp,Tp,Tp,Tp,Tp,Tp,Tp,Tp,Tp,Tp,Tp,Tp,Tp,Tp,Tp,Tp,Tp,Tp,Tp,Tp,Tp,Tp,Tp,Tp,Tp,Tp,Tp,Tp,Tp,Tp,Tp,Tp,Tp,Tp,Tp,Tp,Tp,Tp,Tp,Tp,Tp,Tp,Tp,Tp,Tp,Tp,Tp,Tp,Tp,Tp,Tp,Tp,Tp,Tp,Tp,Tp,Tp,Tp])∧st=[.box (nm false ⟨#[]⟩ ⟨#[]⟩),.box (nm neg ⟨#[]⟩ ⟨#[]⟩)]∧d=(AA al).length∧ -1000000000≤x∧x+(AA al).length≤2000000000) [false,false,true,false,false,true,false,false,false,false,true,false,false,true,true] (AA al).length [0,1] (by decide) (AC _) ⟨al,_,by (simp only [yE,reduceCtorEq];try rfl),by (simp only [yE];try rfl),rfl,by omega,by omega⟩ ?_
  clear hal al
  rintro d e st ⟨al,x,rfl,rfl,rfl,hx1,hx2⟩
  by_cases ha:0<(AA al).length
  ·have t2:AN ((AA al).length:Nat) 0=false:=AE (by omega)
   have w2:AG .i64 (((AA al).length:Nat) - 1)=(((AA al).length - 1:Nat):Int):=Bq (by omega) (by omega)
   have c2:(0:Int)≤(((AA al).length - 1:Nat):Int):=by omega
   have c0:(0:Int)≤0:=by omega
   have c3:(((AA al).length - 1:Nat):Int)≤((AA al).length:Nat):=by omega
   have w3:AG .i64 (x+1)=x+1:=Au (by omega) (by omega)
   obtain ⟨c,hc⟩:=get_lt (show (AA al).length - 1<(AA al).length by omega)
   cases h1:AJ (c.toNat:Nat) 48 with
   |true=>
    simp -implicitDefEqProofs only [↓yP,yT,AY.eq_1,AV.eq_1,Aw.eq_1,t2,w2,c2,c0,c3,hc,h1,w3,i00]
    refine ⟨(AA al).length - 1,[0,1],by omega,by decide,AC _,_,_,by (simp only [yE,reduceCtorEq];try rfl),by (simp only [yE];try rfl),?_,by omega,?_⟩
    ·rw [AD];simp
    ·rw [AD];simp;omega
   |false=>
    have hne:(AA al==AA ⟨#[]⟩)=false:=by
     rw [beq_eq_false_iff_ne];intro h;rw [h] at ha;exact absurd ha (by decide)
    simp -implicitDefEqProofs only [↓yP,yT,Nat.reduceAdd,Nat.reduceLeDiff,AY.eq_1,AV.eq_1,t2,w2,c2,hc,h1,At,hne]
    refine AB (Wy x (by omega) (by omega)) (by rfl) fun y hy=>?_
    obtain ⟨z,rfl,hz⟩:=hy
    simp -implicitDefEqProofs only [yT]
    refine AB (X9 ex z (by omega) (by omega)) (by rfl) fun y hy=>?_
    obtain ⟨z2,ok,rfl⟩:=hy
    simp -implicitDefEqProofs only [↓yP,yT,Nat.reduceAdd,reduceCtorEq]
    exact ⟨_,_,_,_,rfl⟩
  ·have t2:AN ((AA al).length:Nat) 0=true:=AH (by omega)
   have hnil:AA al=[]:=List.eq_nil_of_length_eq_zero (by omega)
   have hne:(AA al==AA ⟨#[]⟩)=true:=by rw [hnil];rfl
   simp -implicitDefEqProofs only [↓yP,yT,Nat.reduceAdd,reduceCtorEq,AY.eq_1,t2,At,hne]
   exact ⟨_,_,_,_,rfl⟩
 ·have t1:AJ (k:Nat) ((AA s).length:Nat)=false:=AF (by omega)
  simp -implicitDefEqProofs only [↓yP,yT,Nat.reduceAdd,reduceCtorEq,AY.eq_1,t1]
  exact ⟨_,_,_,_,rfl⟩
end Go.Vx.Seat
end
section
open Go Go.Vx Go.Proofs
set_option maxRecDepth 10000
set_option maxHeartbeats 8000000
namespace Go.Vx.Seat
attribute [local irreducible] Rg Rt Ro Ri Rc Ds Dt Dw Dx Rw Rl Rd Av An kf
theorem nY:By C1.P.funcs.toList 83=some Try.f83:=by kernel_rfl
abbrev tc (k:Int) (u:ByteArray) (b:Bool) (d x:ByteArray) (f sg:Bool):List Ce:=
 [.p (.d (.int .i64 k)),.p (.d (.string ⟨#[]⟩)),.p (.d (.string u)),.p (.d (.bool b)),.p (.d (.string d)),.p (.d (.string x)),.p (.d (.bool f)),.p (.d (.bool sg)),.p (.d (.int .i64 0)),.p (.d (.int .i64 0)),.p (.d (.int .i64 0)),.p (.d (.int .i64 0)),.p (.d (.int .i64 0))]
def Fp (k:Int) (u:ByteArray) (b:Bool) (d x:ByteArray) (f sg:Bool):Tok:=⟨k,⟨#[]⟩,u,b,d,x,f,sg,0,0,0,0,0⟩
theorem oS {i k:Nat} (h:i≤k) (hn:k=i→False):i<k:=by
 rcases Nat.lt_or_ge i k with g|g
 ·exact g
 ·exact (hn (by omega)).elim
theorem Gf {l:List Rn} {k:Nat} (h:AL (DV l (k:Nat))=true):k<l.length:=Nat.lt_of_not_le fun hle=>by
 rw [DZ (by omega)] at h;exact absurd h (by decide)
end Go.Vx.Seat
end
section
open Go Go.Vx Go.Proofs
set_option maxRecDepth 10000
set_option maxHeartbeats 8000000
namespace Go.Vx.Seat
attribute [local irreducible] Rg Rt Ro Ri Rc Ds Dt Dw Dx Rw Rl Rd Av An kf
theorem Pl (s:ByteArray) (hs:(AA s).length≤2000000000):∃s':ByteArray,AS C1 22 [yd (.string s)] fun y=>y=yd (.string s'):=by
 obtain ⟨y,⟨s',rfl,_⟩,h⟩:=(Uy s hs).det Nh JO rfl
 exact ⟨s',h⟩
noncomputable def Lf (s:ByteArray):ByteArray:=if h:(AA s).length≤2000000000 then Classical.choose (Pl s h) else s
theorem Lh (s:ByteArray) (hs:(AA s).length≤2000000000):AS C1 22 [yd (.string s)] fun y=>y=yd (.string (Lf s)):=by
 rw [Lf,dif_pos hs];exact Classical.choose_spec (Pl s hs)
theorem Mk (s:ByteArray) (hs:(AA s).length≤800000000):∃p:Bool×ByteArray×ByteArray×Bool,AS C1 103 [yd (.string s)] fun y=>y=.tup [.agg (nm p.1 p.2.1 p.2.2.1),yd (.bool p.2.2.2)]:=by
 obtain ⟨y,⟨b,d,x,ok,rfl⟩,h⟩:=(RP s hs).det Nh JO rfl
 exact ⟨(b,d,x,ok),h⟩
noncomputable def Du (s:ByteArray):Bool×ByteArray×ByteArray×Bool:=if h:(AA s).length≤800000000 then Classical.choose (Mk s h) else (false,s,s,false)
theorem Ju (s:ByteArray) (hs:(AA s).length≤800000000):AS C1 103 [yd (.string s)] fun y=>y=.tup [.agg (nm (Du s).1 (Du s).2.1 (Du s).2.2.1),yd (.bool (Du s).2.2.2)]:=by
 rw [Du,dif_pos hs];exact Classical.choose_spec (Mk s hs)
noncomputable def BG (l:List Rn):Tok×List Rn:=
 let p:=AT l
 if AJ (hd p.2) 40 then
  (if (AA (Lf (AO p.1))==AA ⟨#[117,114,108]⟩)&& !AJ (hd (Aq (p.2.drop 1))) 34&& !AJ (hd (Aq (p.2.drop 1))) 39 then D7 l (p.2.drop 1) else (AM 2 (AO p.1),p.2.drop 1))
 else (AM 1 (AO p.1),p.2)
noncomputable def EP (sg f:Bool) (st:ByteArray) (r:List Rn):Tok×List Rn:=
 if Ag r then (Fp 12 (AO (AT r).1) (Du st).1 (Du st).2.1 (Du st).2.2.1 f sg,(AT r).2)
 else if AJ (hd r) 37 then (Fp 11 ⟨#[]⟩ (Du st).1 (Du st).2.1 (Du st).2.2.1 f sg,r.drop 1)
 else (Fp 10 ⟨#[]⟩ (Du st).1 (Du st).2.1 (Du st).2.2.1 f sg,r)
noncomputable def E8 (l:List Rn):Tok×List Rn:=EP (AJ (hd l) 43) (Et l).1 (AO (A9 (used l (Et l).2))) (Et l).2
theorem M6 {l:List Rn} {k:Nat} (h:AL (DV l (k:Nat))=true):digs (l.drop k)=digs (l.drop (k+1)):=by
 cases hk:l[k]? with
 |none=>rw [DZ (by have:l.length≤k:=(by simpa using hk);omega)] at h;cases h
 |some x=>rw [CU hk] at h;rw [Am hk,digs,List.dropWhile_cons_of_pos (by simpa using h)];rfl
theorem Jc {l:List Rn} {k:Nat} (h:AL (DV l (k:Nat))=false):digs (l.drop k)=l.drop k:=by
 cases hk:l[k]? with
 |none=>rw [List.drop_eq_nil_of_le (by simpa using hk)];rfl
 |some x=>rw [CU hk] at h;rw [Am hk,digs,List.dropWhile_cons_of_neg (by simp [h])]
theorem RM {l:List Rn} {i k:Nat} {f:Bool} (hB:FO (Gj (l.drop i))=(f,l.drop k)) (h:(AJ (hd (l.drop k)) 101||AJ (hd (l.drop k)) 69)=true):
  Et (l.drop i)=if AL (hd (if Ai (l.drop (k+1)) then l.drop (k+2) else l.drop (k+1))) then (false,digs (if Ai (l.drop (k+1)) then l.drop (k+2) else l.drop (k+1))) else (f,l.drop k):=by
 rw [Et,hB]
 simp only [Gh,h,if_true,List.drop_drop]
theorem ZG {l:List Rn} {i:Nat} (hi:i<l.length) (hb:DB (DV l (i:Nat))=true∨Np l i=true):(AT (l.drop i)).2.length<l.length - i:=by
 have key:∀n (m:List Rn),m.length≤n→(AT m).2.length≤m.length:=by
  intro n
  induction n with
  |zero=>intro m hm;have:m=[]:=List.eq_nil_of_length_eq_zero (by omega);subst this;rw [BU];simp
  |succ n ih=>
   intro m hm
   cases m with
   |nil=>rw [BU];simp
   |cons x r=>
    cases h1:DB x.r with
    |true=>rw [BM h1];have:=ih r (by simpa using hm);simp only [List.length_cons];omega
    |false=>
     cases h2:esc0 (x::r) with
     |true=>rw [Cj h1 h2];have h3:=CT r;have:=ih (BZ r).2 (by simp at hm;omega);simp only [List.length_cons];omega
     |false=>rw [Cw h1 h2];simp
 obtain ⟨x,hx⟩:=get_lt hi
 have hlen:(l.drop (i+1)).length=l.length - i - 1:=by simp;omega
 rw [GJ,CU hx] at hb
 rw [Am hx] at hb ⊢
 cases h1:DB x.r with
 |true=>rw [BM h1];have:=key _ (l.drop (i+1)) (Nat.le_refl _);simp only;omega
 |false=>
  have h2:esc0 (x::l.drop (i+1))=true:=by rcases hb with h|h;rw [h1] at h;cases h;exact h
  rw [Cj h1 h2]
  have h3:=CT (l.drop (i+1))
  have:=key _ (BZ (l.drop (i+1))).2 (Nat.le_refl _)
  simp only;omega
theorem MY (l:List Rn) (i:Nat) (hl:l.length≤200000000) (hi:i<l.length) (hb:DB (DV l (i:Nat))=true∨Np l i=true):AS C1 84 [.c (.p (rR l)),yd (.int .i64 (i:Nat))] (bI l i (BG (l.drop i))):=by
 refine Pf (by rfl) (by rfl) oF (by rfl) ?_
 simp only [Try.f84,List.length_cons,List.length_nil,List.replicate,List.cons_append,List.nil_append]
 simp -implicitDefEqProofs only [↓yP,yT,Nat.reduceLeDiff]
 refine AB (FB l i hl (by omega)) (by rfl) fun y hy=>?_
 obtain ⟨k,rfl,hk1,hk2,hs,hk3⟩:=hy
 have hlt:=ZG hi hb
 rw [hk3] at hlt
 have hik:i<k:=by simp at hlt;omega
 have hsl:(AA (AO (AT (l.drop i)).1)).length≤2000000000:=by rw [AW];omega
 obtain ⟨s,hse⟩:∃s,s=AO (AT (l.drop i)).1:=⟨_,rfl⟩
 rw [←hse] at hsl ⊢
 have w1:AG .i64 ((k:Int)+1)=((k+1:Nat):Int):=AK (by omega)
 simp -implicitDefEqProofs only [↓yP,yT]
 refine AB (BC l _) (by rfl) fun y hy=>?_
 subst hy
 cases h1:AJ (DV l (k:Nat)) 40 with
 |false=>
  simp -implicitDefEqProofs only [↓yP,yT,Nat.reduceAdd,Nat.reduceLeDiff,reduceCtorEq,h1]
  exact ⟨AM 1 s,k,rfl,by omega,by omega,by rw [BG,hk3,Ax,h1,hse];rfl⟩
 |true=>
  have hk40:=AQ h1
  have hkl:k<l.length:=Nat.lt_of_not_le fun hle=>by
   rw [DZ (by omega)] at hk40
   exact absurd hk40 (by decide)
  simp -implicitDefEqProofs only [↓yP,yT,h1,w1]
  refine Ah (fun d e st=>∃(j:Nat),e=[.c (.p (rR l)),yd (.int .i64 (i:Nat)),Tp,Tp,.c (.ptr 0 0 0 0),Tp,yd (.string s),yd (.int .i64 (k:Nat)),yd (.int .i64 (j:Nat)),Tp,Tp,Tp,Tp,Tp,Tp,Tp,Tp,Tp,Tp,Tp,Tp,Tp,Tp,Tp,Tp,Tp,Tp,Tp,Tp,Tp,Tp,Tp,Tp,Tp,Tp,Tp,Tp,Tp,Tp,Tp,Tp,Tp,Tp,Tp,Tp,Tp,Tp,Tp,Tp,Tp,Tp,Tp,Tp,Tp,Tp,Tp]∧st=[.box zt]∧j+d=l.length∧Aq (l.drop j)=Aq (l.drop (k+1))) [true,true,false,false,true,false,true,true,true] (l.length - (k+1)) [0] (by decide) (AC _) ⟨k+1,by (simp only [yE];try rfl),by (simp only [yE];try rfl),by omega,rfl⟩ ?_
  rintro d e st ⟨j,rfl,rfl,hd,hbj⟩
  have v1:AG .i64 ((j:Int)+1)=((j+1:Nat):Int):=AK (by omega)
  simp -implicitDefEqProofs only [↓yP,yT]
  refine AB (BC l _) (by rfl) fun y hy=>?_
  subst hy
  simp -implicitDefEqProofs only [yT]
  refine AB (CY _) (by rfl) fun y hy=>?_
  subst hy
  cases h2:Ad (DV l (j:Nat)) with
  |true=>
   have hjl:j<l.length:=Nat.lt_of_not_le fun hle=>by
    rw [DZ (by omega)] at h2
    exact absurd h2 (by decide)
   simp -implicitDefEqProofs only [↓yP,yT,v1]
   refine ⟨d - 1,[0],by omega,by decide,AC _,j+1,by (simp only [yE];try rfl),by (simp only [yE];try rfl),by omega,by rw [←hbj,Ji h2]⟩
  |false=>
   rw [Gz h2] at hbj
   simp -implicitDefEqProofs only [↓yP,yT]
   refine AB (Lh s hsl) (by rfl) fun y hy=>?_
   subst hy
   cases h3:(AA (Lf s)==AA ⟨#[117,114,108]⟩) with
   |false=>
    have hT:BG (l.drop i)=(AM 2 s,l.drop (k+1)):=by rw [BG,hk3,Ax,h1,if_pos rfl,List.drop_drop,←hbj,Ax,←hse,h3];simp
    simp -implicitDefEqProofs only [↓yP,yT,Nat.reduceAdd,Nat.reduceLeDiff,reduceCtorEq,At,h3,w1,EN,Jm]
    exact ⟨AM 2 s,k+1,rfl,by omega,by omega,hT⟩
   |true=>
    simp -implicitDefEqProofs only [yT,At,h3]
    refine AB (BC l _) (by rfl) fun y hy=>?_
    subst hy
    cases h4:AJ (DV l (j:Nat)) 34 with
    |true=>
     have hT:BG (l.drop i)=(AM 2 s,l.drop (k+1)):=by rw [BG,hk3,Ax,h1,if_pos rfl,List.drop_drop,←hbj,Ax,←hse,h3,h4];simp
     simp -implicitDefEqProofs only [↓yP,yT,Nat.reduceAdd,Nat.reduceLeDiff,reduceCtorEq,h4,w1,EN,Jm]
     exact ⟨AM 2 s,k+1,rfl,by omega,by omega,hT⟩
    |false=>
     simp -implicitDefEqProofs only [yT,h4]
     refine AB (BC l _) (by rfl) fun y hy=>?_
     subst hy
     cases h5:AJ (DV l (j:Nat)) 39 with
     |true=>
      have hT:BG (l.drop i)=(AM 2 s,l.drop (k+1)):=by rw [BG,hk3,Ax,h1,if_pos rfl,List.drop_drop,←hbj,Ax,←hse,h3,h4,h5];simp
      simp -implicitDefEqProofs only [↓yP,yT,Nat.reduceAdd,Nat.reduceLeDiff,reduceCtorEq,h5,w1,EN,Jm]
      exact ⟨AM 2 s,k+1,rfl,by omega,by omega,hT⟩
     |false=>
      simp -implicitDefEqProofs only [↓yP,yT,h5,w1]
      refine AB (XN l i (k+1) hl (by omega) (by omega)) (by rfl) fun y hy=>?_
      obtain ⟨t,k',rfl,hk1',hk2',ht⟩:=hy
      have hT:BG (l.drop i)=(t,l.drop k'):=by
       rw [BG,hk3,Ax,h1,if_pos rfl,List.drop_drop,←hbj,Ax,←hse,h3,h4,h5]
       exact ht
      simp only [Tok.yv,Tok.cs,Tok.pc,List.map_cons,List.map_nil]
      simp -implicitDefEqProofs only [↓yP,yT,Nat.reduceAdd,reduceCtorEq,EN,Jm]
      exact ⟨t,k',rfl,by omega,by omega,hT⟩
theorem Jv (l:List Rn) (i:Nat) (hl:l.length≤200000000) (hi:i<l.length) (hn:Cm l i=true):AS C1 83 [.c (.p (rR l)),yd (.int .i64 (i:Nat))] (bI l i (E8 (l.drop i))):=by
 have w1:AG .i64 ((i:Int)+1)=((i+1:Nat):Int):=AK (by omega)
 refine Pf (by rfl) (by rfl) nY (by rfl) ?_
 simp only [Try.f83,List.length_cons,List.length_nil,List.replicate,List.cons_append,List.nil_append]
 simp -implicitDefEqProofs only [↓yP,yT,Nat.reduceAdd,Nat.reduceLeDiff,reduceCtorEq]
 refine HO (fun e st=>∃(k:Nat) (sg:Bool),(∃g:Nat→YV,e=[.c (.p (rR l)),yd (.int .i64 (k:Nat)),g 2,g 3,.c (.ptr 0 0 0 0),g 5,yd (.int .i64 (i:Nat)),.c (.ptr 1 0 0 0),g 8,g 9,g 10,g 11,g 12,g 13,g 14,g 15,g 16,g 17,g 18,g 19,g 20,g 21,g 22,g 23,g 24,g 25,g 26,g 27,g 28,g 29,g 30,g 31,g 32,g 33,g 34,g 35,g 36,g 37,g 38,g 39,g 40,g 41,g 42,g 43,g 44,g 45,g 46,g 47,g 48,g 49,g 50,g 51,g 52,g 53,g 54,g 55,g 56,g 57,g 58,g 59,g 60,g 61,g 62,g 63,g 64,g 65,g 66,g 67,g 68,g 69,g 70,g 71,g 72,g 73,g 74,g 75,g 76,g 77,g 78,g 79,g 80,g 81,g 82,g 83,g 84,g 85,g 86,g 87,g 88,g 89,g 90,g 91,g 92,g 93,g 94,g 95,g 96,g 97,g 98,g 99,g 100,g 101,g 102,g 103,g 104,g 105,g 106,g 107,g 108,g 109,g 110,g 111,g 112,g 113,g 114,g 115,g 116,g 117,g 118,g 119,g 120,g 121,g 122,g 123,g 124])∧st=[.box zt,.box (tc 10 ⟨#[]⟩ false ⟨#[]⟩ ⟨#[]⟩ true sg)]∧i≤k∧k≤i+1∧(AL (DV l (k:Nat))||(AJ (DV l (k:Nat)) 46&&AL (DV l ((k+1:Nat):Int))))=true∧(if Ai (l.drop i) then l.drop (i+1) else l.drop i)=l.drop k∧sg=AJ (hd (l.drop i)) 43) ?_ ?_
 ·skip
  refine AB (BC l _) (by rfl) fun y hy=>?_
  subst hy
  cases h1:AJ (DV l (i:Nat)) 43 with
  |true=>
   simp -implicitDefEqProofs only [↓yP,yT,h1]
   refine AB (BC l _) (by rfl) fun y hy=>?_
   subst hy
   simp -implicitDefEqProofs only [↓yP,yT,Nat.reduceAdd,Nat.reduceLeDiff,h1,w1,Ae]
   exact ⟨i+1,_,BB rfl,rfl,by omega,by omega,by simpa [Cm,h1] using hn,if_pos (by rw [Ai,Ax,h1];rfl),by rw [Ax,h1]⟩
  |false=>
   simp -implicitDefEqProofs only [yT,h1]
   refine AB (BC l _) (by rfl) fun y hy=>?_
   subst hy
   cases h2:AJ (DV l (i:Nat)) 45 with
   |true=>
    simp -implicitDefEqProofs only [↓yP,yT,h2]
    refine AB (BC l _) (by rfl) fun y hy=>?_
    subst hy
    simp -implicitDefEqProofs only [↓yP,yT,Nat.reduceAdd,Nat.reduceLeDiff,h1,w1,Ae]
    exact ⟨i+1,_,BB rfl,rfl,by omega,by omega,by simpa [Cm,h1,h2] using hn,if_pos (by rw [Ai,Ax,h2,Bool.or_true]),by rw [Ax,h1]⟩
   |false=>
    simp -implicitDefEqProofs only [↓yP,yT,h2,Ae]
    exact ⟨i,_,BB rfl,rfl,by omega,by omega,by simpa [Cm,h1,h2] using hn,if_neg (by rw [Ai,Ax,h1,h2];simp),by rw [Ax,h1]⟩
 rintro e st ⟨i1,sg,⟨g,rfl⟩,rfl,hi1,hi2,hnd,hA0,hsg⟩
 have hA1:Gj (l.drop i)=digs (l.drop i1):=by rw [Gj,List.drop_drop,hA0]
 have hin:i1<l.length:=Nat.lt_of_not_le fun hle=>by
  rw [DZ (by omega)] at hnd;exact absurd hnd (by simp [AL,HG,BN])
 simp -implicitDefEqProofs only [↓yP]
 refine Ah (fun d e st=>∃(k:Nat),e=([.c (.p (rR l)),yd (.int .i64 (k:Nat)),Tp,Tp,.c (.ptr 0 0 0 0),Tp,yd (.int .i64 (i:Nat)),.c (.ptr 1 0 0 0),Tp,Tp,Tp,Tp,Tp,Tp,Tp,Tp,Tp,Tp,Tp,Tp,Tp,Tp,Tp,Tp,Tp,Tp,Tp,Tp,Tp,Tp,Tp,Tp,Tp,Tp,Tp,Tp,Tp,Tp,Tp,Tp,Tp,Tp,Tp,Tp,Tp,Tp,Tp,Tp,Tp,Tp,Tp,Tp,Tp,Tp,Tp,Tp,Tp,Tp,Tp,Tp,Tp,Tp,Tp,Tp,Tp,Tp,Tp,Tp,Tp,Tp,Tp,Tp,Tp,Tp,Tp,Tp,Tp,Tp,Tp,Tp,Tp,Tp,Tp,Tp,Tp,Tp,Tp,Tp,Tp,Tp,Tp,Tp,Tp,Tp,Tp,Tp,Tp,Tp,Tp,Tp,Tp,Tp,Tp,Tp,Tp,Tp,Tp,Tp,Tp,Tp,Tp,Tp,Tp,Tp,Tp,Tp,Tp,Tp,Tp,Tp,Tp,Tp,Tp,Tp,Tp])∧st=[.box zt,.box (tc 10 ⟨#[]⟩ false ⟨#[]⟩ ⟨#[]⟩ true sg)]∧k+d=l.length∧i≤k∧(k=i→(AL (DV l (k:Nat))||(AJ (DV l (k:Nat)) 46&&AL (DV l ((k+1:Nat):Int))))=true)∧digs (l.drop i1)=digs (l.drop k)) [true,true,false,false,true,false,true,true] (l.length - i1) [0,1] (by decide) (AC _) ⟨i1,by (simp only [yE,reduceCtorEq];try rfl),by (simp only [yE];try rfl),by omega,by omega,fun _=>hnd,rfl⟩ ?_
 rintro d e st ⟨k,rfl,rfl,hd,hik,hk,hdi⟩
 simp -implicitDefEqProofs only [↓yP,yT]
 refine AB (BC l _) (by rfl) fun y hy=>?_
 subst hy
 simp -implicitDefEqProofs only [yT]
 refine AB (Be _) (by rfl) fun y hy=>?_
 subst hy
 cases h1:AL (DV l (k:Nat)) with
 |true=>
  have:=Gf h1
  have v1:AG .i64 ((k:Int)+1)=((k+1:Nat):Int):=AK (by omega)
  simp -implicitDefEqProofs only [↓yP,yT,v1]
  refine ⟨d - 1,[0,1],by omega,by decide,AC _,k+1,by (simp only [yE,reduceCtorEq];try rfl),by (simp only [yE];try rfl),by omega,by omega,fun h=>by omega,by rw [hdi,M6 h1]⟩
 |false=>
 rw [hdi,Jc h1] at hA1
 rw [h1,Bool.false_or] at hk
 have v1:AG .i64 ((k:Int)+1)=((k+1:Nat):Int):=AK (by omega)
 have v2:AG .i64 ((k:Int)+2)=((k+2:Nat):Int):=A1 (i:=k+2) (by omega)
 simp -implicitDefEqProofs only [↓yP,yT]
 refine HO (fun e st=>∃(k:Nat) (f:Bool),(∃g:Nat→YV,e=[.c (.p (rR l)),yd (.int .i64 (k:Nat)),g 2,g 3,.c (.ptr 0 0 0 0),g 5,yd (.int .i64 (i:Nat)),.c (.ptr 1 0 0 0),g 8,g 9,g 10,g 11,g 12,g 13,g 14,g 15,g 16,g 17,g 18,g 19,g 20,g 21,g 22,g 23,g 24,g 25,g 26,g 27,g 28,g 29,g 30,g 31,g 32,g 33,g 34,g 35,g 36,g 37,g 38,g 39,g 40,g 41,g 42,g 43,g 44,g 45,g 46,g 47,g 48,g 49,g 50,g 51,g 52,g 53,g 54,g 55,g 56,g 57,g 58,g 59,g 60,g 61,g 62,g 63,g 64,g 65,g 66,g 67,g 68,g 69,g 70,g 71,g 72,g 73,g 74,g 75,g 76,g 77,g 78,g 79,g 80,g 81,g 82,g 83,g 84,g 85,g 86,g 87,g 88,g 89,g 90,g 91,g 92,g 93,g 94,g 95,g 96,g 97,g 98,g 99,g 100,g 101,g 102,g 103,g 104,g 105,g 106,g 107,g 108,g 109,g 110,g 111,g 112,g 113,g 114,g 115,g 116,g 117,g 118,g 119,g 120,g 121,g 122,g 123,g 124])∧st=[.box zt,.box (tc 10 ⟨#[]⟩ false ⟨#[]⟩ ⟨#[]⟩ f sg)]∧i<k∧k≤l.length∧FO (Gj (l.drop i))=(f,l.drop k)) ?_ ?_
 ·skip
  refine AB (BC l _) (by rfl) fun y hy=>?_
  subst hy
  cases h2:AJ (DV l (k:Nat)) 46 with
  |false=>
   simp -implicitDefEqProofs only [↓yP,yT,h2,Ae]
   exact ⟨k,_,BB rfl,rfl,oS hik (fun h=>by have:=hk h;rw [h2] at this;simp at this),by omega,by rw [hA1,FO,Ax,h2];rfl⟩
  |true=>
   simp -implicitDefEqProofs only [yT,h2,v1]
   refine AB (BC l _) (by rfl) fun y hy=>?_
   subst hy
   simp -implicitDefEqProofs only [yT]
   refine AB (Be _) (by rfl) fun y hy=>?_
   subst hy
   cases h3:AL (DV l ((k+1:Nat):Int)) with
   |false=>
    simp -implicitDefEqProofs only [↓yP,yT,Ae]
    exact ⟨k,_,BB rfl,rfl,oS hik (fun h=>by have:=hk h;rw [h3] at this;simp at this),by omega,by rw [hA1,FO,List.drop_drop,Ax,Ax,h3,Bool.and_false];rfl⟩
   |true=>
    have:=Gf h3
    simp -implicitDefEqProofs only [↓yP,yT,Nat.reduceAdd,Nat.reduceLeDiff,v2]
    refine Ah (fun d e st=>∃(k2:Nat),e=([.c (.p (rR l)),yd (.int .i64 (k2:Nat)),Tp,Tp,.c (.ptr 0 0 0 0),Tp,yd (.int .i64 (i:Nat)),.c (.ptr 1 0 0 0),Tp,Tp,Tp,Tp,Tp,Tp,Tp,Tp,Tp,Tp,Tp,Tp,Tp,Tp,Tp,Tp,Tp,Tp,Tp,Tp,Tp,Tp,Tp,Tp,Tp,Tp,Tp,Tp,Tp,Tp,Tp,Tp,Tp,Tp,Tp,Tp,Tp,Tp,Tp,Tp,Tp,Tp,Tp,Tp,Tp,Tp,Tp,Tp,Tp,Tp,Tp,Tp,Tp,Tp,Tp,Tp,Tp,Tp,Tp,Tp,Tp,Tp,Tp,Tp,Tp,Tp,Tp,Tp,Tp,Tp,Tp,Tp,Tp,Tp,Tp,Tp,Tp,Tp,Tp,Tp,Tp,Tp,Tp,Tp,Tp,Tp,Tp,Tp,Tp,Tp,Tp,Tp,Tp,Tp,Tp,Tp,Tp,Tp,Tp,Tp,Tp,Tp,Tp,Tp,Tp,Tp,Tp,Tp,Tp,Tp,Tp,Tp,Tp,Tp,Tp,Tp,Tp])∧st=[.box zt,.box (tc 10 ⟨#[]⟩ false ⟨#[]⟩ ⟨#[]⟩ false sg)]∧k2+d=l.length∧i<k2∧digs (l.drop ((k+2)))=digs (l.drop k2)) [true,true,false,false,true,false,true,true] (l.length - (k+2)) [0,1] (by decide) (AC _) ⟨(k+2),by (simp only [yE,reduceCtorEq];try rfl),by (simp only [yE];try rfl),by omega,by omega,rfl⟩ ?_
    rintro d2 e st ⟨k2,rfl,rfl,hd2,hk2,hdg⟩
    simp -implicitDefEqProofs only [↓yP,yT]
    refine AB (BC l _) (by rfl) fun y hy=>?_
    subst hy
    simp -implicitDefEqProofs only [yT]
    refine AB (Be _) (by rfl) fun y hy=>?_
    subst hy
    cases h8:AL (DV l (k2:Nat)) with
    |true=>
     have:=Gf h8
     have v8:AG .i64 ((k2:Int)+1)=((k2+1:Nat):Int):=AK (by omega)
     simp -implicitDefEqProofs only [↓yP,yT,v8]
     refine ⟨d2 - 1,[0,1],by omega,by decide,AC _,k2+1,by (simp only [yE,reduceCtorEq];try rfl),by (simp only [yE];try rfl),by omega,by omega,by rw [hdg,M6 h8]⟩
    |false=>
     rw [Jc h8] at hdg
     simp -implicitDefEqProofs only [↓yP,yT,Ae]
     exact ⟨k2,_,BB rfl,rfl,by omega,by omega,by rw [←hdg];rw [hA1,FO,List.drop_drop,Ax,Ax,h2,h3,List.drop_drop];rfl⟩
 clear v1 v2 hk hik hd h1 hdi hA1 hA0 k
 rintro e st ⟨k,f,⟨g,rfl⟩,rfl,hik,hkl,hB⟩
 have v1:AG .i64 ((k:Int)+1)=((k+1:Nat):Int):=AK (by omega)
 simp -implicitDefEqProofs only [↓yP,yT]
 refine HO (fun e st=>∃(k:Nat) (f:Bool),(∃g:Nat→YV,e=[.c (.p (rR l)),yd (.int .i64 (k:Nat)),g 2,g 3,.c (.ptr 0 0 0 0),g 5,yd (.int .i64 (i:Nat)),.c (.ptr 1 0 0 0),g 8,g 9,g 10,g 11,g 12,g 13,g 14,g 15,g 16,g 17,g 18,g 19,g 20,g 21,g 22,g 23,g 24,g 25,g 26,g 27,g 28,g 29,g 30,g 31,g 32,g 33,g 34,g 35,g 36,g 37,g 38,g 39,g 40,g 41,g 42,g 43,g 44,g 45,g 46,g 47,g 48,g 49,g 50,g 51,g 52,g 53,g 54,g 55,g 56,g 57,g 58,g 59,g 60,g 61,g 62,g 63,g 64,g 65,g 66,g 67,g 68,g 69,g 70,g 71,g 72,g 73,g 74,g 75,g 76,g 77,g 78,g 79,g 80,g 81,g 82,g 83,g 84,g 85,g 86,g 87,g 88,g 89,g 90,g 91,g 92,g 93,g 94,g 95,g 96,g 97,g 98,g 99,g 100,g 101,g 102,g 103,g 104,g 105,g 106,g 107,g 108,g 109,g 110,g 111,g 112,g 113,g 114,g 115,g 116,g 117,g 118,g 119,g 120,g 121,g 122,g 123,g 124])∧st=[.box zt,.box (tc 10 ⟨#[]⟩ false ⟨#[]⟩ ⟨#[]⟩ f sg)]∧i<k∧k≤l.length∧Et (l.drop i)=(f,l.drop k)) ?_ ?_
 ·skip
  refine AB (BC l _) (by rfl) fun y hy=>?_
  subst hy
  cases h1:AJ (DV l (k:Nat)) 101 with
  |true=>
   have hE:(AJ (hd (l.drop k)) 101||AJ (hd (l.drop k)) 69)=true:=by rw [Ax,h1];rfl
   simp -implicitDefEqProofs only [↓yP,yT,h1,v1]
   refine HO (fun e st=>∃(k3:Nat),(∃g:Nat→YV,e=[.c (.p (rR l)),yd (.int .i64 (k:Nat)),g 2,g 3,.c (.ptr 0 0 0 0),g 5,yd (.int .i64 (i:Nat)),.c (.ptr 1 0 0 0),yd (.int .i64 (k3:Nat)),g 9,g 10,g 11,g 12,g 13,g 14,g 15,g 16,g 17,g 18,g 19,g 20,g 21,g 22,g 23,g 24,g 25,g 26,g 27,g 28,g 29,g 30,g 31,g 32,g 33,g 34,g 35,g 36,g 37,g 38,g 39,g 40,g 41,g 42,g 43,g 44,g 45,g 46,g 47,g 48,g 49,g 50,g 51,g 52,g 53,g 54,g 55,g 56,g 57,g 58,g 59,g 60,g 61,g 62,g 63,g 64,g 65,g 66,g 67,g 68,g 69,g 70,g 71,g 72,g 73,g 74,g 75,g 76,g 77,g 78,g 79,g 80,g 81,g 82,g 83,g 84,g 85,g 86,g 87,g 88,g 89,g 90,g 91,g 92,g 93,g 94,g 95,g 96,g 97,g 98,g 99,g 100,g 101,g 102,g 103,g 104,g 105,g 106,g 107,g 108,g 109,g 110,g 111,g 112,g 113,g 114,g 115,g 116,g 117,g 118,g 119,g 120,g 121,g 122,g 123,g 124])∧st=[.box zt,.box (tc 10 ⟨#[]⟩ false ⟨#[]⟩ ⟨#[]⟩ f sg)]∧k<k3∧k3≤k+2∧(if Ai (l.drop (k+1)) then l.drop (k+2) else l.drop (k+1))=l.drop k3) ?_ ?_
   ·skip
    refine AB (BC l _) (by rfl) fun y hy=>?_
    subst hy
    have w2:AG .i64 (((k+1:Nat):Int)+1)=((k+2:Nat):Int):=AK (by omega)
    cases h3:AJ (DV l ((k+1:Nat):Int)) 43 with
    |true=>
     simp -implicitDefEqProofs only [↓yP,yT,h3,w2,Ae]
     exact ⟨k+2,BB rfl,by omega,by omega,if_pos (by rw [Ai,Ax,h3];rfl)⟩
    |false=>
     simp -implicitDefEqProofs only [yT,h3]
     refine AB (BC l _) (by rfl) fun y hy=>?_
     subst hy
     cases h4:AJ (DV l ((k+1:Nat):Int)) 45 with
     |true=>
      simp -implicitDefEqProofs only [↓yP,yT,h4,w2,Ae]
      exact ⟨k+2,BB rfl,by omega,by omega,if_pos (by rw [Ai,Ax,h4,Bool.or_true])⟩
     |false=>
      simp -implicitDefEqProofs only [↓yP,yT,h4,Ae]
      exact ⟨k+1,BB rfl,by omega,by omega,if_neg (by rw [Ai,Ax,h3,h4];simp)⟩
   rintro e st ⟨k3,⟨g,rfl⟩,rfl,hk3,hk3',hks⟩
   simp -implicitDefEqProofs only [↓yP,yT]
   refine AB (BC l _) (by rfl) fun y hy=>?_
   subst hy
   simp -implicitDefEqProofs only [yT]
   refine AB (Be _) (by rfl) fun y hy=>?_
   subst hy
   cases h5:AL (DV l (k3:Nat)) with
   |false=>
    simp -implicitDefEqProofs only [↓yP,yT,Ae]
    exact ⟨k,_,BB rfl,rfl,by omega,by omega,by rw [RM hB hE,hks,Ax,h5];rfl⟩
   |true=>
    have:=Gf h5
    simp -implicitDefEqProofs only [↓yP,yT,Nat.reduceAdd,Nat.reduceLeDiff]
    refine Ah (fun d e st=>∃(k2:Nat),e=([.c (.p (rR l)),yd (.int .i64 (k2:Nat)),Tp,Tp,.c (.ptr 0 0 0 0),Tp,yd (.int .i64 (i:Nat)),.c (.ptr 1 0 0 0),Tp,Tp,Tp,Tp,Tp,Tp,Tp,Tp,Tp,Tp,Tp,Tp,Tp,Tp,Tp,Tp,Tp,Tp,Tp,Tp,Tp,Tp,Tp,Tp,Tp,Tp,Tp,Tp,Tp,Tp,Tp,Tp,Tp,Tp,Tp,Tp,Tp,Tp,Tp,Tp,Tp,Tp,Tp,Tp,Tp,Tp,Tp,Tp,Tp,Tp,Tp,Tp,Tp,Tp,Tp,Tp,Tp,Tp,Tp,Tp,Tp,Tp,Tp,Tp,Tp,Tp,Tp,Tp,Tp,Tp,Tp,Tp,Tp,Tp,Tp,Tp,Tp,Tp,Tp,Tp,Tp,Tp,Tp,Tp,Tp,Tp,Tp,Tp,Tp,Tp,Tp,Tp,Tp,Tp,Tp,Tp,Tp,Tp,Tp,Tp,Tp,Tp,Tp,Tp,Tp,Tp,Tp,Tp,Tp,Tp,Tp,Tp,Tp,Tp,Tp,Tp,Tp])∧st=[.box zt,.box (tc 10 ⟨#[]⟩ false ⟨#[]⟩ ⟨#[]⟩ false sg)]∧k2+d=l.length∧i<k2∧digs (l.drop (k3))=digs (l.drop k2)) [true,true,false,false,true,false,true,true] (l.length - k3) [0,1] (by decide) (AC _) ⟨k3,by (simp only [yE,reduceCtorEq];try rfl),by (simp only [yE];try rfl),by omega,by omega,rfl⟩ ?_
    rintro d2 e st ⟨k2,rfl,rfl,hd2,hk2,hdg⟩
    simp -implicitDefEqProofs only [↓yP,yT]
    refine AB (BC l _) (by rfl) fun y hy=>?_
    subst hy
    simp -implicitDefEqProofs only [yT]
    refine AB (Be _) (by rfl) fun y hy=>?_
    subst hy
    cases h8:AL (DV l (k2:Nat)) with
    |true=>
     have:=Gf h8
     have v8:AG .i64 ((k2:Int)+1)=((k2+1:Nat):Int):=AK (by omega)
     simp -implicitDefEqProofs only [↓yP,yT,v8]
     refine ⟨d2 - 1,[0,1],by omega,by decide,AC _,k2+1,by (simp only [yE,reduceCtorEq];try rfl),by (simp only [yE];try rfl),by omega,by omega,by rw [hdg,M6 h8]⟩
    |false=>
     rw [Jc h8] at hdg
     simp -implicitDefEqProofs only [↓yP,yT,Ae]
     exact ⟨k2,_,BB rfl,rfl,by omega,by omega,by rw [←hdg];rw [RM hB hE,hks,Ax,h5];rfl⟩
  |false=>
   simp -implicitDefEqProofs only [yT,h1]
   refine AB (BC l _) (by rfl) fun y hy=>?_
   subst hy
   cases h2:AJ (DV l (k:Nat)) 69 with
   |true=>
    have hE:(AJ (hd (l.drop k)) 101||AJ (hd (l.drop k)) 69)=true:=by rw [Ax,h2,Bool.or_true]
    simp -implicitDefEqProofs only [↓yP,yT,h2,v1]
    refine HO (fun e st=>∃(k3:Nat),(∃g:Nat→YV,e=[.c (.p (rR l)),yd (.int .i64 (k:Nat)),g 2,g 3,.c (.ptr 0 0 0 0),g 5,yd (.int .i64 (i:Nat)),.c (.ptr 1 0 0 0),yd (.int .i64 (k3:Nat)),g 9,g 10,g 11,g 12,g 13,g 14,g 15,g 16,g 17,g 18,g 19,g 20,g 21,g 22,g 23,g 24,g 25,g 26,g 27,g 28,g 29,g 30,g 31,g 32,g 33,g 34,g 35,g 36,g 37,g 38,g 39,g 40,g 41,g 42,g 43,g 44,g 45,g 46,g 47,g 48,g 49,g 50,g 51,g 52,g 53,g 54,g 55,g 56,g 57,g 58,g 59,g 60,g 61,g 62,g 63,g 64,g 65,g 66,g 67,g 68,g 69,g 70,g 71,g 72,g 73,g 74,g 75,g 76,g 77,g 78,g 79,g 80,g 81,g 82,g 83,g 84,g 85,g 86,g 87,g 88,g 89,g 90,g 91,g 92,g 93,g 94,g 95,g 96,g 97,g 98,g 99,g 100,g 101,g 102,g 103,g 104,g 105,g 106,g 107,g 108,g 109,g 110,g 111,g 112,g 113,g 114,g 115,g 116,g 117,g 118,g 119,g 120,g 121,g 122,g 123,g 124])∧st=[.box zt,.box (tc 10 ⟨#[]⟩ false ⟨#[]⟩ ⟨#[]⟩ f sg)]∧k<k3∧k3≤k+2∧(if Ai (l.drop (k+1)) then l.drop (k+2) else l.drop (k+1))=l.drop k3) ?_ ?_
    ·skip
     refine AB (BC l _) (by rfl) fun y hy=>?_
     subst hy
     have w2:AG .i64 (((k+1:Nat):Int)+1)=((k+2:Nat):Int):=AK (by omega)
     cases h3:AJ (DV l ((k+1:Nat):Int)) 43 with
     |true=>
      simp -implicitDefEqProofs only [↓yP,yT,h3,w2,Ae]
      exact ⟨k+2,BB rfl,by omega,by omega,if_pos (by rw [Ai,Ax,h3];rfl)⟩
     |false=>
      simp -implicitDefEqProofs only [yT,h3]
      refine AB (BC l _) (by rfl) fun y hy=>?_
      subst hy
      cases h4:AJ (DV l ((k+1:Nat):Int)) 45 with
      |true=>
       simp -implicitDefEqProofs only [↓yP,yT,h4,w2,Ae]
       exact ⟨k+2,BB rfl,by omega,by omega,if_pos (by rw [Ai,Ax,h4,Bool.or_true])⟩
      |false=>
       simp -implicitDefEqProofs only [↓yP,yT,h4,Ae]
       exact ⟨k+1,BB rfl,by omega,by omega,if_neg (by rw [Ai,Ax,h3,h4];simp)⟩
    rintro e st ⟨k3,⟨g,rfl⟩,rfl,hk3,hk3',hks⟩
    simp -implicitDefEqProofs only [↓yP,yT]
    refine AB (BC l _) (by rfl) fun y hy=>?_
    subst hy
    simp -implicitDefEqProofs only [yT]
    refine AB (Be _) (by rfl) fun y hy=>?_
    subst hy
    cases h5:AL (DV l (k3:Nat)) with
    |false=>
     simp -implicitDefEqProofs only [↓yP,yT,Ae]
     exact ⟨k,_,BB rfl,rfl,by omega,by omega,by rw [RM hB hE,hks,Ax,h5];rfl⟩
    |true=>
     have:=Gf h5
     simp -implicitDefEqProofs only [↓yP,yT,Nat.reduceAdd,Nat.reduceLeDiff]
     refine Ah (fun d e st=>∃(k2:Nat),e=([.c (.p (rR l)),yd (.int .i64 (k2:Nat)),Tp,Tp,.c (.ptr 0 0 0 0),Tp,yd (.int .i64 (i:Nat)),.c (.ptr 1 0 0 0),Tp,Tp,Tp,Tp,Tp,Tp,Tp,Tp,Tp,Tp,Tp,Tp,Tp,Tp,Tp,Tp,Tp,Tp,Tp,Tp,Tp,Tp,Tp,Tp,Tp,Tp,Tp,Tp,Tp,Tp,Tp,Tp,Tp,Tp,Tp,Tp,Tp,Tp,Tp,Tp,Tp,Tp,Tp,Tp,Tp,Tp,Tp,Tp,Tp,Tp,Tp,Tp,Tp,Tp,Tp,Tp,Tp,Tp,Tp,Tp,Tp,Tp,Tp,Tp,Tp,Tp,Tp,Tp,Tp,Tp,Tp,Tp,Tp,Tp,Tp,Tp,Tp,Tp,Tp,Tp,Tp,Tp,Tp,Tp,Tp,Tp,Tp,Tp,Tp,Tp,Tp,Tp,Tp,Tp,Tp,Tp,Tp,Tp,Tp,Tp,Tp,Tp,Tp,Tp,Tp,Tp,Tp,Tp,Tp,Tp,Tp,Tp,Tp,Tp,Tp,Tp,Tp])∧st=[.box zt,.box (tc 10 ⟨#[]⟩ false ⟨#[]⟩ ⟨#[]⟩ false sg)]∧k2+d=l.length∧i<k2∧digs (l.drop (k3))=digs (l.drop k2)) [true,true,false,false,true,false,true,true] (l.length - k3) [0,1] (by decide) (AC _) ⟨k3,by (simp only [yE,reduceCtorEq];try rfl),by (simp only [yE];try rfl),by omega,by omega,rfl⟩ ?_
     rintro d2 e st ⟨k2,rfl,rfl,hd2,hk2,hdg⟩
     simp -implicitDefEqProofs only [↓yP,yT]
     refine AB (BC l _) (by rfl) fun y hy=>?_
     subst hy
     simp -implicitDefEqProofs only [yT]
     refine AB (Be _) (by rfl) fun y hy=>?_
     subst hy
     cases h8:AL (DV l (k2:Nat)) with
     |true=>
      have:=Gf h8
      have v8:AG .i64 ((k2:Int)+1)=((k2+1:Nat):Int):=AK (by omega)
      simp -implicitDefEqProofs only [↓yP,yT,v8]
      refine ⟨d2 - 1,[0,1],by omega,by decide,AC _,k2+1,by (simp only [yE,reduceCtorEq];try rfl),by (simp only [yE];try rfl),by omega,by omega,by rw [hdg,M6 h8]⟩
     |false=>
      rw [Jc h8] at hdg
      simp -implicitDefEqProofs only [↓yP,yT,Ae]
      exact ⟨k2,_,BB rfl,rfl,by omega,by omega,by rw [←hdg];rw [RM hB hE,hks,Ax,h5];rfl⟩
   |false=>
    simp -implicitDefEqProofs only [↓yP,yT,h2,Ae]
    exact ⟨k,_,BB rfl,rfl,by omega,by omega,by rw [Et,hB];simp only [Gh,Ax,h1,h2,Bool.or_self,Bool.false_eq_true,if_false]⟩
 clear v1 hik hkl hB k
 rintro e st ⟨k,f,⟨g,rfl⟩,rfl,hik,hkl,hF⟩
 have v1:AG .i64 ((k:Int)+1)=((k+1:Nat):Int):=AK (by omega)
 simp -implicitDefEqProofs only [↓yP,yT]
 refine AB (B7 l i k hl (by omega) hkl) (by rfl) fun y hy=>?_
 subst hy
 have hst:(AA (AO (A9 ((l.drop i).take (k - i))))).length≤800000000:=by
  rw [AW];have:=En ((l.drop i).take (k - i));simp at this ⊢;omega
 have hus:used (l.drop i) (l.drop k)=(l.drop i).take (k - i):=DR l (by omega) hkl
 have hnT:E8 (l.drop i)=EP sg f (AO (A9 ((l.drop i).take (k - i)))) (l.drop k):=by rw [E8,hF,hsg,hus]
 rw [hnT]
 generalize AO (A9 ((l.drop i).take (k - i)))=st at hst
 clear hnT hus hF
 simp -implicitDefEqProofs only [yT]
 refine AB (Ju st hst) (by rfl) fun y hy=>?_
 subst hy
 simp -implicitDefEqProofs only [↓yP,yT,Nat.reduceAdd,Nat.reduceLeDiff,reduceCtorEq]
 refine AB (Dz l k (by omega)) (by rfl) fun y hy=>?_
 subst hy
 rw [DA]
 cases h1:Ag (l.drop k) with
 |true=>
  simp -implicitDefEqProofs only [↓yP,yT,Nat.reduceAdd,Nat.reduceLeDiff]
  refine AB (FB l k hl hkl) (by rfl) fun y hy=>?_
  obtain ⟨k2,rfl,hk1,hk2,_,hk3⟩:=hy
  simp -implicitDefEqProofs only [↓yP,yT,Nat.reduceAdd,Nat.reduceLeDiff,reduceCtorEq,EN,Jm]
  exact ⟨Fp 12 (AO (AT (l.drop k)).1) (Du st).1 (Du st).2.1 (Du st).2.2.1 f sg,k2,rfl,by omega,by omega,by rw [EP,if_pos h1,hk3]⟩
 |false=>
  simp -implicitDefEqProofs only [↓yP,yT]
  refine AB (BC l _) (by rfl) fun y hy=>?_
  subst hy
  cases h2:AJ (DV l (k:Nat)) 37 with
  |true=>
   have:k<l.length:=Nat.lt_of_not_le fun hle=>by
    rw [DZ (by omega)] at h2;exact absurd h2 (by decide)
   simp -implicitDefEqProofs only [↓yP,yT,Nat.reduceAdd,Nat.reduceLeDiff,reduceCtorEq,h2,v1,EN,Jm]
   exact ⟨Fp 11 ⟨#[]⟩ (Du st).1 (Du st).2.1 (Du st).2.2.1 f sg,k+1,rfl,by omega,by omega,by rw [EP,if_neg (by rw [h1];simp),Ax,if_pos h2,List.drop_drop]⟩
  |false=>
   simp -implicitDefEqProofs only [↓yP,yT,Nat.reduceAdd,reduceCtorEq,h2,EN,Jm]
   exact ⟨Fp 10 ⟨#[]⟩ (Du st).1 (Du st).2.1 (Du st).2.2.1 f sg,k,rfl,by omega,by omega,by rw [EP,if_neg (by rw [h1];simp),Ax,if_neg (by rw [h2];simp)]⟩
end Go.Vx.Seat
end
section
open Go Go.Vx Go.Proofs
set_option maxRecDepth 10000
set_option maxHeartbeats 8000000
namespace Go.Vx.Seat
attribute [local irreducible] Rg Rt Ro Ri Rc Ds Dt Dw Dx Rw Rl Rd Av An kf
theorem o5:By C1.P.funcs.toList 54=some Try.f54:=by kernel_rfl
theorem o6:By C1.P.funcs.toList 23=some Try.f23:=by kernel_rfl
structure OneQ (l:List Rn) (i:Nat) (t:Tok) (k:Nat):Prop where
 colon:∀x,l[i]?=some x→x.r=58→t=AM 16 ⟨#[]⟩∧k=i+1
 opn:∀x,l[i]?=some x→x.r=123→t=AM 19 ⟨#[]⟩∧k=i+1
 shut:∀x,l[i]?=some x→x.r=125→t=AM 20 ⟨#[]⟩∧k=i+1
 name:∀x,l[i]?=some x→97≤x.r→x.r≤122→DB (DV l ((i+1:Nat):Int))=false→Np l (i+1)=false→DV l ((i+1:Nat):Int)≠40→t.kind=1∧k=i+1
theorem Bh {l:List Rn} {i:Nat} {c:UInt8} {cs:List UInt8} (h:CW l i (c::cs)=true):DV l (i:Nat)=(c.toNat:Nat)∧CW l (i+1) cs=true:=by
 rw [CW,Bool.and_eq_true] at h
 exact ⟨AQ h.1,h.2⟩
theorem N7 {l:List Rn} {i:Nat} (h:DV l (i:Nat)≠ -1):i<l.length:=Nat.lt_of_not_le fun hle=>h (DZ (by omega))
theorem PM {l:List Rn} {i:Nat} (h:ED l i=true):DB (DV l (i:Nat))=true∨Np l i=true:=by
 simp only [ED,Bool.and_eq_true] at h
 obtain ⟨_,h⟩:=h
 split at h
 ·rename_i h2
  exact .inl (by rw [AQ h2];rfl)
 ·rw [Bool.or_eq_true] at h
  exact h.imp (fun h=>by simp [DB,h]) fun h=>h
end Go.Vx.Seat
end
section
open Go Go.Vx Go.Proofs
set_option maxRecDepth 10000
set_option maxHeartbeats 8000000
namespace Go.Vx.Seat
attribute [local irreducible] Rg Rt Ro Ri Rc Ds Dt Dw Dx Rw Rl Rd Av An kf
inductive Lexed (l:List Rn):Nat→List Tok→Prop where
 |nil:Lexed l 0 []
 |snoc {i k:Nat} {ts:List Tok} {x:Rn} {t:Tok}:Lexed l i ts→l[i]?=some x→i<k→k≤l.length→TokLex l t→OneQ l i t k→Lexed l k (ts++[{t with start:=x.a}])
theorem Lexed.len {l:List Rn} {i:Nat} {ts:List Tok} (h:Lexed l i ts):ts.length≤i:=by
 induction h with
 |nil=>simp
 |snoc h1 h2 h3 h4 h5 h6 ih=>simp;omega
end Go.Vx.Seat
end

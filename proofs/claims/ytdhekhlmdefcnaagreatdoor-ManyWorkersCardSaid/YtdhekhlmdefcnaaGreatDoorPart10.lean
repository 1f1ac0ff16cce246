/- Part 10 of the proof. -/
import Derived.Test.YtdhekhlmdefcnaaGreatDoorPart9b
import Derived.Test.YtdhekhlmdefcnaaGreatDoorPart9c
import Derived.Deep.DeepCutAuto
import Derived.StillTailTactics
import Derived.WalkLawsBesides
import Derived.Lib.AtoiAll
import Derived.Lib.ItoaNum
import Derived.Lib.FieldsP
import Derived.Lib.Strings
import Derived.Lib.Join
import Derived.Lib.Small
import Derived.WalkSmall
import Derived.MapKept
import Derived.Lib.ItoaLen
set_option maxHeartbeats 16000000
set_option maxRecDepth 1000000
namespace Go
section
variable {p:Prop}
theorem zaB(h:p:=by refine aM rfl (λli ac wx H hn av hM K hk=>?_);have e7:ac.tmps[7]?.getD undef=pT g 3:=H.k av 2 7;have hM1:=hM;simp only[aL,aK]at hM1;clear av H;first|(have c3:=(Below.cell hM1 (p:=⟨g,3,none⟩) hg).trans hc3;go_simp;exact hk _ hM)|(have c3:=(Below.cell hM1.1 (p:=⟨g,3,none⟩) hg).trans hc3;go_simp;exact hk _ hM)):p:=h
theorem zaC(h:p:=by refine .inr (.inl ⟨rfl,λγ=>Ck rfl (λli ac wx H hn av hM K hk=>?_)⟩);have e9:ac.tmps[9]?.getD undef=.slice A l.length c:=H.k av 4 9;have hM1:(λ_=>λwx=>Below w.heap.size w wx) γ wx:=hM;have hdf:=hI (H.cA.defers.trans fp);clear av H;go_simp;refine(HN.out wx hM1).mono ?_;rintro e w' ⟨⟨b,c',rfl,hlt,hcb⟩,hb⟩;exact hk (b,c') _ ⟨hM1.trans (hb.mono hM1.size),hcb⟩):p:=h
theorem zaD(h:p:=by refine .inl ⟨dC,λγ M=>aM rfl (λli ac wx H hn av hM K hk=>?_)⟩;have e10:ac.tmps[10]?.getD undef=.slice (some ⟨γ.1,0,none⟩) 1 γ.2:=H.k av 5 10;clear av H;go_simp;exact hk _ hM):p:=h
theorem zaE(h:p:=by simp only[bB,hr]):p:=h
theorem zaF(h:p:=by refine .inl ⟨dC,λγ M=>aM rfl (λli ac wx H hn av hM K hk=>?_)⟩;have e1:ac.tmps[1]?.getD undef=.slice A l.length c:=bP ((H.cA.slot dC).trans f1);clear av H;go_simp;exact hk _ hM):p:=h
theorem zaG(h:p:=by refine aM rfl (λli ac wx H hn av hM K hk=>?_);have e7:ac.tmps[7]?.getD undef=pT g 3:=H.k av 2 7;have hM1:(λ_=>λwx=>Below w.heap.size w wx) γ wx:=hM;clear av H;first|(have c3:=(Below.cell hM1 (p:=⟨g,3,none⟩) hg).trans hc3;go_simp;exact hk _ hM)|(have c3:=(Below.cell hM1.1 (p:=⟨g,3,none⟩) hg).trans hc3;go_simp;exact hk _ hM)):p:=h
theorem zaH(h:p:=by refine .inl ⟨dC,λγ M=>aM rfl (λli ac wx H hn av hM K hk=>?_)⟩;have e0:ac.tmps[0]?.getD undef=pT g 0:=bP ((H.cA.slot dC).trans f0);clear av H;go_simp;exact hk _ hM):p:=h
theorem zaI(h:p:=by refine .inl ⟨dC,λγ M=>aM rfl (λli ac wx H hn av hM K hk=>?_)⟩;have e6:ac.tmps[6]?.getD undef=pT g 0:=H.k av 1 6;clear av H;go_simp;exact hk _ hM):p:=h
theorem zaJ(h:p:=by refine .inl ⟨dC,λγ M=>aM rfl (λli ac wx H hn av hM K hk=>?_)⟩;have e5:ac.tmps[5]?.getD undef=pT g 0:=H.k av 0 5;clear av H;go_simp;exact hk _ hM):p:=h
theorem zaK(h:p:=by refine .inr (.inr (.inl ⟨1,dC,rfl,λγ=>aM rfl (λli ac wx H hn av hM K hk=>?_)⟩));have e11:ac.tmps[11]?.getD undef=pT γ.1 0:=H.k av 6 11;have hM1:=hM;simp only[aL,aK]at hM1;have hdf:=hI (H.cA.defers.trans fp);clear av H;have c0:=hM1.2;go_simp;exact hk _ hM):p:=h
theorem zaL(h:p:=by refine aM rfl (λli ac wx H hn av hM K hk=>?_);have e7:ac.tmps[7]?.getD undef=pT g 3:=H.k av 2 7;have hM1:(λ_=>λ_=>False) γ wx:=hM;clear av H;first|exact hM1.elim|(have c3:=(Below.cell hM1 (p:=⟨g,3,none⟩) hg).trans hc3;go_simp;exact hk _ hM)):p:=h
theorem zaM(h:p:=by obtain⟨s,hs⟩:∃s,stores[stores.length-1]?=some s:=⟨_,bg oM⟩;have h1:=hst _ s hs;(have h2:s<ops.size:=by simpa using bj.1 hsz s (aR hs));rw[hall s h2]at h1;(have:stores.length-1<j:=by simpa using h1.symm);omega):p:=h
theorem zaN(h:p:=by obtain⟨s',hs'⟩:∃s',stores[t-1]?=some s':=⟨_,bg oM⟩;rw[aD,hs']at h4;have h5:li.getD s' false=true:=qB hH.closed ho av _ h4;have h6:=hst (t-1) s' hs';rw[h5]at h6;(have:t-1<j:=by simpa using h6.symm);omega):p:=h
theorem zaO(h:p:=by have h1:=hst t s ht;rw[decide_eq_true h]at h1;have h2:=jA hH.closed _ _ L8 h1;rw[hnot]at h2;cases h2):p:=h
theorem zaP(h:p:=by have hM1:(λ_=>λ_=>False) γ wx:=hM;have hdf:=hI (H.cA.defers.trans fp);clear av H;exact hM1.elim):p:=h
theorem zaQ(h:p:=by unfold kj at hok;simp only[aV,decide_eq_true_eq]at hok;exact⟨(cC n).toNat,oM,oM⟩):p:=h
theorem zaR(h:p:=by subst hrn;clear hno Df HA HT hcell;(go_wp2_with (go_at_call 41;refine(eJ 3 w1 (hI eE.out.et)).mono ?_;rintro e w3 ⟨rfl,hb3⟩));exact⟨rfl,rfl,HW1.out.trans (hb3.mono HW1.out.size)⟩):p:=h
theorem zaS(h:p:=by rcases hcase with rfl|rfl|rfl|rfl|rfl|rfl|rfl|rfl|rfl|rfl<;>first|rfl|exact absurd dC hj):p:=h
theorem zaT(h:p:=by clear bad;go_enter func39,ntmps39;(go_wp2_with (go_at_call 41;refine(eJ 3 w (hI hs.out.et)).mono ?_;rintro e w' ⟨rfl,hb⟩));exact⟨rfl,rfl,hb⟩):p:=h
theorem zaU(h:p:=by subst hil;(have hrn:r=some vs:=by rw[<-HN.out,<-HV.out,bZ (aj _)]);subst hrn;go_wp2_with fail;go_ret;exact⟨⟨_,rfl,HO.out⟩,HW.out⟩):p:=h
theorem zaV(h:p:=by go_ret;exact cv.same HH.out ((HB.out.trans (HB2.out.mono HB.out.size)).trans (hb4.mono (aS HB.out.size HB2.out.size))) rfl):p:=h
theorem zaW(h:p:=by exact⟨rfl,rfl,(HW1.out.trans (HB2.out.mono HW1.out.size)).trans (hb3.mono (aS HW1.out.size HB2.out.size))⟩):p:=h
theorem zaX(h:p:=by rintro e w' ⟨N,he,-,-,hb⟩;exact⟨⟨_,_,he,.inr ⟨⟨_,_,rfl⟩,by unfold numOf;rw[ha]⟩⟩,hb⟩):p:=h
theorem zaY(h:p:=by unfold eP at hok;simp only[aV,decide_eq_true_eq]at hok;exact⟨(cC n).toNat,oM,oM⟩):p:=h
theorem zaZ(h:p:=by rw[e',ht]at hts;injection hts with hts;exact e hts.symm):p:=h
theorem za0(h:p:=by rw[e];exact aR hts):p:=h
theorem za1(h:p:=by intro li a w hH hn av hM K hk;rw[if_pos (by simp[Region.wanted,hg])];exact h li a w hH hn av hM K hk):p:=h
theorem za2(h:p:=by subst e;rw[hset];have:t=j:=(List.getElem?_inj (aX.1 hts).1 hnd).1 (hts.trans ht.symm);rw[this];simp):p:=h
theorem za3(h:p:=by simp;omega):p:=h
theorem za4(h:p:=by exact⟨rfl,cv.same HH.out hb rfl⟩):p:=h
theorem za5(h:p:=by unfold kj at hok;simpa using hok):p:=h
theorem za6(h:p:=by have:=HW2.out.size;simp;omega):p:=h
theorem za7(h:p:=by rw[getD_set_ne false e2];exact h1):p:=h
theorem za8(h:p:=by rintro e w' ⟨rfl,hb⟩;exact hQ _ _ hdf.out (hM1.trans (hb.mono hM1.size))):p:=h
theorem za9(h:p:=by intro γ ac wx hF hK hM0;have hM:(λ_=>λ_=>False) γ wx:=hM0;exact hM.elim):p:=h
theorem zba(h:p:=by unfold numOf;rw[hat];exact if_neg λh=>hsp (xo.2 h)):p:=h
theorem zbb(h:p:=by rw[fP];decide):p:=h
theorem zbc(h:p:=by simpa[ints]using World.ownsRow_nil _ _ _ _):p:=h
theorem zbd(h:p:=by unfold numOf;rw[hat];exact if_pos (xo.1 hsp)):p:=h
theorem zbe(h:p:=by have:=jA hH.closed _ _ h1 hl;rw[hnot]at this;cases this):p:=h
theorem zbf(h:p:=by unfold eP at hok;simpa using hok):p:=h
theorem zbg(h:p:=by rw[iC HV.out,List.length_take];omega):p:=h
theorem zbh(h:p:=by rw[<-HN.out];exact HT.out.2 hno):p:=h
theorem zbi(h:p:=by rw[getD_set_ne false hni];exact hM'):p:=h
theorem zbj(h:p:=by simpa using h1.symm):p:=h
end
end Go
namespace Go.Proofs.YtdhekhlmdefcnaaGreatDoor
open Go.Proofs.Tryz Go.RowKit
theorem TJ(S d:Int)(A:Option Addr)(n c:Nat)(rs:List Nat)(w:aa)(mC:Hid (rs.length=n))(h1:1<=n)(hn:n<=8)(hc:n<=c)(hr:Reads w w.heap.size A (ints (zs rs)))
 (hlt:Hid (∀r∈rs,r<4096))(hok:Hid (ib S (zs rs) d=.ok))(hT:Hid (TabIs w))(hg:8<w.heap.size):
 Calls prog 105 #[.agg #[I S,.slice A n c,I d]] w λe w'=>e=.returned (.tuple #[I (je (dp rs) (2^n)),.nilIface])/\Below w.heap.size w w':=by
 have hp:=hI (Bv n hn);go_enter func105,ntmps105;go_wp2_with (go_at_call 97;refine(pg _ _ _ _ _ rs _ mC h1 hn hc ((hr.alloc (aj _) _).more sM) hlt hok).mono ?_;rintro e w1 ⟨⟨Ac,nc,rfl,hown⟩,hb1⟩;obtain⟨hq,hf⟩:=LK hb1)
 have hw:Below w.heap.size w w1:=((Below.refl _ _).alloc (aj _) _).trans (hb1.mono sM);have HT:Hid (TabIs w1):=hI (λj v h=>(hw.cell (p:=⟨8,j,none⟩) hg).trans (hT.out j v h));obtain⟨_,_,he,hcc,-,hrc⟩:=dQ hown;injection he with e1 _ e3;subst e1 e3;have hP:Hid ((2:Nat)^n<=256):=hI (cn (n:=2) dC hn);clear hq hf hb1 hown;have e:wrap64 (2^n)=((2^n:Nat):Int):=by rw[Bv n hn,Nat.shiftLeft_eq,Nat.one_mul]
 generalize wrap64 (2^n)=z at*;subst e;clear hp;generalize hNe:(2:Nat)^n=N at*;have hN2:Hid ((2:Nat)^n=N):=hI hNe;clear hNe;have hN:=hP.out;go_loop [6,22] (λb i=>∃k:Nat,k<=N/\i=I k/\b=I (je (dp rs) k)) (λ_ i=>N-(intOf i).toNat)
 case atStart=>exact⟨0,oM,rfl,rfl⟩
 case round=>
  obtain⟨k,hk,rfl,rfl⟩:=hrel;by_cases hlt1:k<N
  ·go_wp2_with fail;go_loop [8,9] (λo m=>∃q:Nat,q<=k/\m=I q/\o=.bool (pu (dp rs) k q)/\Hid (∀i,q.testBit i=true->k.testBit i=true)) (λ_ m=>(intOf m).toNat)
   case atStart=>exact⟨k,aj _,rfl,by rw[JO],λ_ h=>h⟩
   case round=>
    obtain⟨q,hq,rfl,rfl,hsub⟩:=hrel;by_cases h0:0<q
    ·have hz:=Gv q oM h0;have HS:=hI (JQ (cs:=dp rs) (set:=k) (m:=q) oM h0 hsub.out);have HA:=hI (PL q h0 oM);have hcl:=PK q h0;have HB:Hid (∀i,(q&&&(q-1)).testBit i=true->k.testBit i=true):=hI (λi hi=>hsub.out i (by rw[Nat.testBit_and]at hi;simp at hi;exact hi.1));(have tq:((q:Int) !=0)=true:=za3);cases hok:pu (dp rs) k q with
     |false=>
      go_wp2_with fail;go_round
      case rel=>exact⟨q&&&(q-1),oM,uv HA.out,by rw[HS.out,hok];rfl,HB⟩
      case measure=>have e:=HA.out;simp only[intOf,e];omega
     |true=>
      (have hcn:ctz q<n:=by have hb:=JN q oM h0;rcases cp (ctz q) n with h|h;exact h;have:q<2^ctz q:=aT (oM:q<N) (by rw[<-hN2.out];exact cn dC h);rw[Nat.testBit_lt_two_pow this]at hb;cases hb);obtain⟨x,hx⟩:=bY (dp rs) (ctz q) (by rw[jT,mC.out];exact hcn);(have hx256:x<256:=by have hx':=hx;unfold dp at hx';rw[gR]at hx';obtain⟨j,_,rfl⟩:=bQ.1 hx';exact iY _ _ _ (by rw[mC.out];exact hn));obtain⟨bb,oo,rfl,hbb,hcell⟩:=hrc.at_ (jR hx);have HX:=hI (gz hx);(have tA:(bits .and .i64 (x:Int) (k:Int)==0)=decide (x&&&k=0):=by rw[kY x k oM oM];by_cases h:x&&&k=0;simp[h];simp[h]);have TA:=hI tA;clear hx tA;(go_wp2_with (go_at_call 140;refine(Dl q h0 oM _ HT.out).mono ?_;rintro e w' ⟨rfl,rfl⟩));go_round
      case rel=>refine⟨q&&&(q-1),oM,uv HA.out,?_,HB⟩;have e:=TA.out;rw[HS.out,hok,HX.out,Bool.true_and,<-e]
      case measure=>have e:=HA.out;simp only[intOf,e];omega
    ·(have hq0:q=0:=by omega);subst hq0;have HO:Hid (pu (dp rs) k 0=yx (dp rs) k):=hI (JP _ _);have e:=HO.out;rw[e];clear e;(have abo:pop k<=8:=by unfold pop;exact aS (List.length_filter_le _ _) sM);have hbl:=vq (dp rs) k;have HL:Hid (je (dp rs) (k+1)=if yx (dp rs) k then max (je (dp rs) k) (pop k)else je (dp rs) k):=rfl;cases hos:yx (dp rs) k with
     |false=>
      go_wp2_with fail;go_round
      case rel=>exact⟨k+1,oM,by go_num,by rw[HL.out,hos];rfl⟩
      case measure=>simp[intOf];omega
     |true=>
      (go_wp2_with (go_at_call 141;refine(lg k oM _).mono ?_;rintro e w' ⟨rfl,rfl⟩));go_round
      case rel=>refine⟨k+1,oM,by go_num,uv ?_⟩;rw[HL.out,hos,if_pos rfl];first|(split<;>omega)|omega
      case measure=>simp[intOf];omega
  ·go_wp2_with fail;go_ret2;have hkN:k=N:=oM;exact⟨by rw[hkN,<-hN2.out];rfl,hw⟩
end Go.Proofs.YtdhekhlmdefcnaaGreatDoor
namespace Go.Proofs.YtdhekhlmdefcnaaGreatDoor
open Go.RowKit
theorem V9{w w':aa}{r:Err}{v:ae}(h:Ef w w' r v)(hr:r≠.ok):(∃e,v=.iface 31 (I e))\/∃g,v=.iface 149 (pT g 0):=by
 cases r with
 |ok=>exact absurd rfl hr
 |bare e=>exact .inl ⟨e,h⟩
 |place e p=>obtain⟨g,_,h,_⟩:=h;exact .inr ⟨g,h⟩
theorem Ef.base{w0 w1 w:aa}{r:Err}{v:ae}(h:Ef w1 w r v)(hb:w0.heap.size<=w1.heap.size):Ef w0 w r v:=by
 cases r with
 |ok=>exact h
 |bare e=>exact h
 |place e p=>obtain⟨g,h1,h2,h3⟩:=h;exact⟨g,oM,h2,h3⟩
open Go.Proofs.Tryz
def xl(n:Int):List PanicEntry:=[{v:=.iface 89 (.agg #[I n]),recovered:=false}]
theorem nv(w:aa):Calls prog 41 #[.nilIface] w λe w'=>e=.returned (.tuple #[])/\w=w':=by go_enter func41,ntmps41;go_wp2;go_end0;exact⟨rfl,rfl⟩
theorem eJ(n:Int)(w:aa)(hg:Hid (jb w)):Calls prog 41 #[.iface 31 (I n)] w λe w'=>e=.panicked (xl n)/\Below w.heap.size w w':=by
 go_enter func41,ntmps41;go_wp2_with (go_at_call 9;refine(JM n w hg).mono ?_;rintro e w' ⟨rfl,hb⟩)
 exact⟨rfl,rfl,hb⟩
theorem TL(n p:Int)(b:Nat)(w:aa)(hg:Hid (jb w))(ka:Has w b 151 #[I n,I p]):Calls prog 41 #[.iface 149 (pT b 0)] w λe w'=>e=.panicked (xl n)/\Below w.heap.size w w':=by
 go_enter func41,ntmps41;go_wp2_with (go_at_call 9;refine(TI n p b w hg ka).mono ?_;rintro e w' ⟨rfl,hb⟩)
 exact⟨rfl,rfl,hb⟩
end Go.Proofs.YtdhekhlmdefcnaaGreatDoor
namespace Go.Proofs.YtdhekhlmdefcnaaGreatDoor
open Go.RowKit
abbrev By:=List UInt8
def qI(r:Nat):Bool:=r==32
def fieldsB(s:ay):List ay:=Lib.goFieldsP qI s
def numOf(s:ay):Option Int:=
 match Lib.atoiAll s.data.toList with
 |.ok v=>if Lib.itoa v=s.data.toList then some v else none
 |_=>none
def eN:List ay->Option (List Int)
 |[]=>some []
 |s::l=>match numOf s with
  |none=>none
  |some v=>(eN l).map (v::·)
def na(n:Int)(k:Nat):Bool:=if 0<=n then decide ((k:Int)≠n)else decide ((k:Int)< -n)
def numsOf(l:List ay)(n:Int):Option (List Int):=if na n l.length then none else eN l
inductive An where
 |txt(l:By)
 |err(n:Int)
structure Dk where
 L:Lay
 s:Sys
def eF(l:List Int):By:=Lib.join (l.map Lib.itoa) [32]
def Gw:Err->Int
 |.ok=>0
 |.bare e=>e
 |.place e _=>e
def My(n:List Int):Lay:=⟨(n.getD 2 0).toNat,(n.drop 3).map Int.toNat,(n.getD 1 0).toNat⟩
def Mz(n:List Int):Err:=ib (n.getD 2 0) (n.drop 3) (n.getD 1 0)
def cC(n:List Int):Int:=n.getD 0 0
def kj(d:Dk)(i:Int):Bool:=decide (0<=i)&&decide (i<d.s.way.length)
def eP(i:Int):Bool:=decide (0<=i)&&decide (i<3)
inductive xm where
 |ask|begin|calm|conflicts|pp|cO|EC|su|lose|many|most|pQ|see|show|tick|trace|twice
def my(d:Dk)(n:List Int):Dk×An:=
 match Mz n with
 |.ok=>if 1<=cC n/\cC n<=20 then(⟨My n,Sys.new (cC n)⟩,.txt [98,101,103,105,110])else(d,.err 2)
 |e=>(d,.err (Gw e))
def fw(d:Dk)(ok:Bool)(s:Sys)(t:By):Dk×An:=if ok then({d with s:=s},.txt t)else(d,.err 2)
def jL(c:Cm):By:=eF [c.1,c.2.1,c.2.2]
def bB(c:xm)(d:Dk)(w:List ay):Dk×An:=
 let num (k:Int) (f:List Int->Dk×An):Dk×An:=match numsOf w k with|none=>(d,.err 3)|some n=>f n
 match c with
 |.ask=>num 1 λn=>fw d (eP (cC n)) (js d.s (cC n).toNat) [97,115,107]
 |.begin=>num (-4) (my d)
 |.calm=>num 1 λn=>fw d (decide (0<=cC n)&&decide (cC n<=100)) (calm d.L 1200 d.s (cC n).toNat) [99,97,108,109]
 |.conflicts=>num 0 λ_=>(d,.txt (eF (zs (dp d.L.routes))))
 |.pp=>num 1 λn=>fw d (eP (cC n)) (iz d.s (cC n).toNat) [99,114,97,115,104]
 |.cO=>num 1 λn=>fw d (kj d (cC n)) (cO d.L d.s (cC n).toNat) [100,101,108,105,118,101,114]
 |.EC=>num 0 λ_=>(d,.txt TM)
 |.su=>num 0 λ_=>(⟨d.L,pG d.s⟩,.txt [108,97,116,99,104])
 |.lose=>num 1 λn=>fw d (kj d (cC n)) (iU d.s (cC n).toNat) [108,111,115,101]
 |.many=>num 0 λ_=>(d,.txt (eF [(d.s.way.length:Int),(d.s.lost:Int)]))
 |.most=>num 0 λ_=>(d,.txt (Lib.itoa (je (dp d.L.routes) (2^d.L.routes.length):Nat)))
 |.pQ=>num 1 λn=>if eP (cC n)then(d,.txt (eF [((re d.s (cC n).toNat).cycle:Int),((re d.s (cC n).toNat).state.set:Int)]))else(d,.err 2)
 |.see=>num 3 λn=>fw d (eP (cC n)) (jI d.s (cC n).toNat (n.getD 1 0,n.getD 2 0)) [115,101,101]
 |.show=>num 0 λ_=>(d,.txt (eF [fD d.s.v,(d.s.v.out:Int)]++[32]++Lib.formatBool d.s.v.bO))
 |.tick=>num 1 λn=>fw d (eP (cC n)||decide (cC n=3)) (iT d.L d.s (cC n).toNat) [116,105,99,107]
 |.trace=>num 0 λ_=>(d,.txt (Lib.join (d.s.v.trace.map jL) [44,32]))
 |.twice=>num 1 λn=>fw d (kj d (cC n)) (eI d.s (cC n).toNat) [116,119,105,99,101]
where TM:By:=[97,115,107,32,98,101,103,105,110,32,99,97,108,109,32,99,111,110,102,108,105,99,116,115,32,99,114,97,115,104,32,100,101,108,105,118,101,114,32,104,101,108,112,32,108,97,116,99,104,32,108,111,115,101,32,109,97,110,121,32,109,111,115,116,32,114,101,112,108,105,99,97,32,115,101,101,32,115,104,111,119,32,116,105,99,107,32,116,114,97,99,101,32,116,119,105,99,101]
open Go.Proofs.Tryz Go.Sort
structure Std(w:aa):Prop where
 pow:Lib.TabIs prog w "internal/strconv.uint64pow10" .u64 Lib.pow10Tab
 et:jb w
 Wa:∃ev,w.cell? ⟨4,0,none⟩=some ev/\(ev=.nilIface\/∃te pe,ev=.iface te pe)
 ran:∃ev,w.cell? ⟨5,0,none⟩=some ev/\(ev=.nilIface\/∃te pe,ev=.iface te pe)
 tab:TabIs w
 size:9<=w.heap.size
section
variable {w w':aa}{B:Nat}
theorem Std.below(h:Std w)(hB:9<=B)(hb:Below B w w'):Std w' where
 pow:=var?_below hb (show prog.globalNamed "internal/strconv.uint64pow10" =some 6 by kernel_rfl) oM h.pow
 et:=h.et.below oM hb
 Wa:=by
  obtain⟨ev,h1,h2⟩:=h.Wa
  exact⟨ev,(hb.cell (p:=⟨4,0,none⟩) (show 4<B by omega)).trans h1,h2⟩
 ran:=by
  obtain⟨ev,h1,h2⟩:=h.ran
  exact⟨ev,(hb.cell (p:=⟨5,0,none⟩) (show 5<B by omega)).trans h1,h2⟩
 tab:=λj v hv=>(hb.cell (p:=⟨8,j,none⟩) (show 8<B by omega)).trans (h.tab j v hv)
 size:=aS h.size hb.size
theorem Std.after(h:Std w)(hb:Below w.heap.size w w'):Std w':=h.below h.size hb
end
theorem Gx(w:aa)(q:Nat)(os:Array Obj):Below w.heap.size w (grow (w.drewN q) os):=⟨rfl,rfl,rfl,by simp[grow],λk hk=>Array.getElem?_append_left hk⟩
theorem JR{l:List UInt8}{v:Int}(h:Lib.atoiAll l=.ok v):eu v:=by
 unfold Lib.atoiAll at h;cases l with
 |nil=>cases h
 |cons c r=>
  dsimp only at h;split at h;cases h;cases h
  ·rename_i u _;split at h;cases h
   ·split at h;cases h
    ·injection h with h;subst h;split;constructor<;>omega
     ·constructor<;>omega
theorem sA(n:Int)(hn:eu n)(w:aa)(hs:Hid (Std w)):Calls prog 46 #[I n] w λe w'=>e=.returned (.string ⟨(Lib.itoa n).toArray⟩)/\Below w.heap.size w w':=by refine(Tryz.strconv_Itoa n hn.1 hn.2 w hs.out.pow).mono ?_;rintro e w' ⟨he,k,os,rfl⟩;exact⟨he,Gx w k os⟩
theorem JS(s:ay)(hl:s.size<=100000)(w:aa)(hs:Hid (Std w)):Calls prog 59 #[.string s] w λe w'=>
 (∃v er,e=.returned (.tuple #[I v,er])/\((er=.nilIface/\eu v/\Lib.atoiAll s.data.toList=.ok v)\/((∃t p,er=.iface t p)/\numOf s=none)))/\Below w.heap.size w w':=by
 rcases ha:Lib.atoiAll s.data.toList with v|_|_;refine(Tryz.strconv_Atoi_ok s oM v ha w).mono ?_;rintro e w' ⟨he,hw⟩;refine⟨⟨v,.nilIface,he,.inl ⟨rfl,JR ha,rfl⟩⟩,?_⟩;rcases hw with rfl|⟨t,rfl⟩;exact Below.refl _ _;exact⟨rfl,rfl,rfl,by rw[Lib.bytesWorld_size];omega,λj hj=>Lib.bytesWorld_at_old w _ _ j hj⟩;obtain⟨ev,h1,h2⟩:=hs.out.Wa;refine(Tryz.strconv_Atoi_syntax s oM (λv k=>by rw[ha]at k;cases k) (λk=>by rw[ha]at k;cases k) ev w h1 h2).mono ?_;exact zaX;obtain⟨ev,h1,h2⟩:=hs.out.ran;refine(Tryz.strconv_Atoi_range s oM ha ev w h1 h2).mono ?_;exact zaX
end Go.Proofs.YtdhekhlmdefcnaaGreatDoor
namespace Go.Proofs.YtdhekhlmdefcnaaGreatDoor
open Go.Proofs.Tryz Go.RowKit
abbrev strs(l:List ay):List ae:=l.map Value.string
theorem ED{w:aa}{B:Nat}{A:Option Addr}{xs:List ae}(h:Reads w B A xs){k:Nat}{u:ae}(hu:xs[k]?=some u):∃b o,A=some ⟨b,o,none⟩/\b<B/\w.cell? ⟨b,o+k,none⟩=some u:=by obtain⟨b,o,hA,hb,hc⟩:=h (by rintro rfl;simp at hu);exact⟨b,o,hA,hb,hc k u hu⟩
theorem xn{s:ay}{l:List ay}{v:Int}{vs:List Int}(h:numOf s=some v)(h':eN l=some vs):eN (s::l)=some (v::vs):=by unfold eN;rw[h];show(eN l).map _=_;rw[h'];rfl
theorem iC:∀{l:List ay}{vs:List Int},eN l=some vs->vs.length=l.length
 |[],vs,h=>by injection h with h;subst h;rfl
 |s::l,vs,h=>by
  unfold eN at h;cases e:numOf s with
  |none=>rw[e]at h;cases h
  |some v=>
   rw[e]at h;cases e2:eN l with
   |none=>rw[e2]at h;cases h
   |some vs'=>rw[e2]at h;injection h with h;subst h;rw[bN,bN,iC e2]
theorem vu:∀{l:List ay}{i:Nat}{s:ay}{vs:List Int},l[i]?=some s->eN (l.take i)=some vs->(∀v,numOf s=some v->eN (l.take (i+1))=some (vs++[v]))/\(numOf s=none->eN l=none)
 |[],i,s,vs,h,_=>by simp at h
 |a::l,0,s,vs,h,h'=>by
  simp at h;subst h;have:vs=[]:=by injection h' with h';exact h'.symm
  subst this;refine⟨λv hv=>xn hv (l:=l.take 0) rfl,λhn=>?_⟩;unfold eN;rw[hn]
 |a::l,i+1,s,vs,h,h'=>by
  rw[aY]at h;rw[List.take_succ_cons]at h';unfold eN at h';cases e:numOf a with
  |none=>rw[e]at h';cases h'
  |some v=>
   rw[e]at h';cases e2:eN (l.take i)with
   |none=>rw[e2]at h';cases h'
   |some vs'=>rw[e2]at h';injection h' with h';subst h';obtain⟨h1,h2⟩:=vu h e2;refine⟨λv' hv=>?_,λhn=>?_⟩;rw[List.take_succ_cons,xn e (h1 v' hv)];rfl;unfold eN;rw[e,h2 hn];rfl
theorem PM{s:ay}{v:Int}(h:numOf s=some v):eu v:=by unfold numOf at h;split at h;rename_i u hu;split at h;injection h with h;subst h;exact JR hu;cases h;cases h
theorem xo{v:Int}{s:ay}:((⟨(Lib.itoa v).toArray⟩:ay)=s)↔Lib.itoa v=s.data.toList:=by
 constructor;rintro rfl;rfl
 ·intro h;have:(Lib.itoa v).toArray=s.data:=by rw[h]
  rw[this]
theorem JU{a b:ay}(h:a=b):(!(a.toList==b.toList))=false:=by subst h;rw[beq_self_eq_true];rfl
theorem EE{a b:ay}(h:¬a=b):(!(a.toList==b.toList))=true:=by rw[<-beq_toListBytes];show(!(a.data==b.data))=true;rw[beq_eq_false_iff_ne.2 λe=>h (by cases a;cases b;cases e;rfl)];rfl
theorem oQ(A:Option Addr)(c:Nat)(l:List ay)(n:Int)(hn1: -100<=n)(hn2:n<=100)(hl:l.length<=100000)(hb:∀s∈l,s.size<=100000)(w:aa)(hr:Reads w w.heap.size A (strs l))(hs:Hid (Std w))(r:Option (List Int))(hres:Hid (numsOf l n=r)):
 Calls prog 39 #[.slice A l.length c,I n] w λe w'=>
  (match r with|none=>e=.panicked (xl 3)|some vs=>∃v,e=.returned v/\w'.ownsRow w.heap.size 3 1 v vs.length (ints vs))/\Below w.heap.size w w':=by
 obtain⟨i0,hi0,hz0,hz1,hz2⟩:=info_parts rL;have HR:=hI hr;have HB:=hI hb;clear hr hb;have bad:na n l.length=true->r=none:=λh=>by rw[<-hres.out];unfold numsOf;rw[if_pos h]
 by_cases h0:0<=n
 ·by_cases he:(l.length:Int)=n
  ·have HN:Hid (eN l=r):=hI (by
    rw[<-hres.out];unfold numsOf na;rw[if_pos h0,if_neg (by simp[he])])
   subst he;clear bad;go_enter func39,ntmps39;go_wp2_with fail;go_loopw [5,29] (λv iv wr=>∃i:Nat,i<=l.length/\iv=I i/\∃vs,Hid (eN (l.take i)=some vs)/\Hid (wr.ownsRow w.heap.size 3 1 v vs.length (ints vs))/\Hid (Below w.heap.size w wr)) (λ_ iv _=>l.length-(intOf iv).toNat)
   case atStart=>exact⟨0,bT _,rfl,[],hI rfl,hI zbc,hI (Below.refl _ _)⟩
   case round=>
    obtain⟨i,hi,rfl,vs,HV,HO,HW⟩:=hrel;by_cases hlt:i<l.length
    ·obtain⟨s,hx⟩:=bY l i hlt;obtain⟨b,o,rfl,hbb,hcell⟩:=ED (HR.out.below HW.out) (show(strs l)[i]?=some (.string s)by simp[hx]);have hii:(i:Int)<(l.length:Int):=oM;have hsz:=HB.out s (aR hx);have HT:=hI (vu hx HV.out);(have hvl:vs.length=i:=zbg);have pM:=hI hlt;have HS:=hI (hs.out.below hs.out.size HW.out);have HA:=hI (JS s hsz wr HS);clear hx hsz hlt hi HV;(go_upto_region 8 with(go_at_call 59;refine HA.out.mono ?_;rintro e w1 ⟨⟨v,er,rfl,hv⟩,hb1⟩;have HB1:=hI hb1;have Df:=hI hv;clear hv hb1));have HW1:Hid (Below w.heap.size w w1):=hI (HW.out.trans (HB1.out.mono HW.out.size));have eE:=hI (HS.out.after HB1.out);rcases Df.out with⟨rfl,h64,hat⟩|⟨⟨t,p,rfl⟩,hno⟩
     ·have HI:=hI (sA v h64 w1 eE);have rG:Hid (w1.ownsRow w.heap.size 3 1 _ vs.length (ints vs)):=hI (eD HO.out HB1.out);by_cases hsp:(⟨(Lib.itoa v).toArray⟩:ay)=s
      ·(have hno:numOf s=some v:=zbd);have BR:=hI (HT.out.1 v hno);have ht:=JU hsp;have aaW:=hI h64;clear hsp hno hat h64 Df HA HT hcell;generalize (⟨(Lib.itoa v).toArray⟩:ay)=sv at*;(go_upto_region 10 with(go_at_call 46;refine HI.out.mono ?_;rintro e w2 ⟨rfl,hb2⟩;have HB2:=hI hb2;clear hb2));have gq:=hI (eD rG.out HB2.out);have HW2:Hid (Below w.heap.size w w2):=hI (HW1.out.trans (HB2.out.mono HW1.out.size));go_wp2_with (at_builtin;refine wpList_append_own _ rfl _ _ 49 rfl w.heap.size 3 i0 (.int .i64 0) 1 8 underlying49 hi0 hz0 hz1 hz2 rfl dC _ _ _ rfl (World.ownsRow.alloc gq.out _) ⟨w2.heap.size,0,none⟩ 1 1 [I v] rfl rfl (cell_one_new _ _ _) (λu hu=>by rw[bW.1 hu];rfl) ?c3 ?c4 ?c5 ?_)
       case c3=>unfold maxLen;omega
       case c4=>omega
       case c5=>have:=HW2.out.size;simp;omega
       intro v' w' hown' hgrow _;have HW3:Hid (Below w.heap.size w w'):=hI ((HW2.out.alloc HW2.out.size _).grown hgrow za6 (λq hq=>(gq.out.lt q hq).1));have lL:Hid (w'.ownsRow w.heap.size 3 1 v' (vs++[v]).length (ints (vs++[v]))):=hI (by
        rw[bm,hvl];simpa[ints]using hown')
       clear hown' hgrow HO rG gq;go_wp2_with fail;go_roundw
       case rel=>exact⟨i+1,pM.out,by go_num,vs++[v],BR,lL,HW3⟩
       case measure=>have:=pM.out;simp[intOf];omega
      ·(have hno:numOf s=none:=zba);(have hrn:r=none:=zbh);subst hrn;have ht:=EE hsp;clear hsp hno hat h64 Df HA HT hcell;generalize (⟨(Lib.itoa v).toArray⟩:ay)=sv at*;go_wp2_with (first
        |(go_at_call 46;refine HI.out.mono ?_;rintro e w2 ⟨rfl,hb2⟩;have HB2:=hI hb2;clear hb2)
        |(go_at_call 41;refine(eJ 3 w2 (hI (eE.out.after HB2.out).et)).mono ?_;rintro e w3 ⟨rfl,hb3⟩))
       exact zaW
     ·(have hrn:r=none:=zbh);exact zaR
    ·(have hil:i=l.length:=by omega);exact zaU
  ·have hrn:=bad (by unfold na;rw[if_pos h0];simpa using he);subst hrn;(have e1:((l.length:Int) !=n)=true:=by simpa using he);exact zaT
 ·by_cases he:(l.length:Int)< -n;have hrn:=bad (by unfold na;rw[if_neg h0];simpa using he);subst hrn;exact zaT
  ·have HN:Hid (eN l=r):=hI (by
    rw[<-hres.out];unfold numsOf na;rw[if_neg h0,if_neg (by simpa using he)])
   clear bad;go_enter func39,ntmps39;go_wp2_with fail;go_loopw [5,29] (λv iv wr=>∃i:Nat,i<=l.length/\iv=I i/\∃vs,Hid (eN (l.take i)=some vs)/\Hid (wr.ownsRow w.heap.size 3 1 v vs.length (ints vs))/\Hid (Below w.heap.size w wr)) (λ_ iv _=>l.length-(intOf iv).toNat)
   case atStart=>exact⟨0,bT _,rfl,[],hI rfl,hI zbc,hI (Below.refl _ _)⟩
   case round=>
    obtain⟨i,hi,rfl,vs,HV,HO,HW⟩:=hrel;by_cases hlt:i<l.length
    ·obtain⟨s,hx⟩:=bY l i hlt;obtain⟨b,o,rfl,hbb,hcell⟩:=ED (HR.out.below HW.out) (show(strs l)[i]?=some (.string s)by simp[hx]);have hii:(i:Int)<(l.length:Int):=oM;have hsz:=HB.out s (aR hx);have HT:=hI (vu hx HV.out);(have hvl:vs.length=i:=zbg);have pM:=hI hlt;have HS:=hI (hs.out.below hs.out.size HW.out);have HA:=hI (JS s hsz wr HS);clear hx hsz hlt hi HV;(go_upto_region 8 with(go_at_call 59;refine HA.out.mono ?_;rintro e w1 ⟨⟨v,er,rfl,hv⟩,hb1⟩;have HB1:=hI hb1;have Df:=hI hv;clear hv hb1));have HW1:Hid (Below w.heap.size w w1):=hI (HW.out.trans (HB1.out.mono HW.out.size));have eE:=hI (HS.out.after HB1.out);rcases Df.out with⟨rfl,h64,hat⟩|⟨⟨t,p,rfl⟩,hno⟩
     ·have HI:=hI (sA v h64 w1 eE);have rG:Hid (w1.ownsRow w.heap.size 3 1 _ vs.length (ints vs)):=hI (eD HO.out HB1.out);by_cases hsp:(⟨(Lib.itoa v).toArray⟩:ay)=s
      ·(have hno:numOf s=some v:=zbd);have BR:=hI (HT.out.1 v hno);have ht:=JU hsp;have aaW:=hI h64;clear hsp hno hat h64 Df HA HT hcell;generalize (⟨(Lib.itoa v).toArray⟩:ay)=sv at*;(go_upto_region 10 with(go_at_call 46;refine HI.out.mono ?_;rintro e w2 ⟨rfl,hb2⟩;have HB2:=hI hb2;clear hb2));have gq:=hI (eD rG.out HB2.out);have HW2:Hid (Below w.heap.size w w2):=hI (HW1.out.trans (HB2.out.mono HW1.out.size));go_wp2_with (at_builtin;refine wpList_append_own _ rfl _ _ 49 rfl w.heap.size 3 i0 (.int .i64 0) 1 8 underlying49 hi0 hz0 hz1 hz2 rfl dC _ _ _ rfl (World.ownsRow.alloc gq.out _) ⟨w2.heap.size,0,none⟩ 1 1 [I v] rfl rfl (cell_one_new _ _ _) (λu hu=>by rw[bW.1 hu];rfl) ?d3 ?d4 ?d5 ?_)
       case d3=>unfold maxLen;omega
       case d4=>omega
       case d5=>have:=HW2.out.size;simp;omega
       intro v' w' hown' hgrow _;have HW3:Hid (Below w.heap.size w w'):=hI ((HW2.out.alloc HW2.out.size _).grown hgrow za6 (λq hq=>(gq.out.lt q hq).1));have lL:Hid (w'.ownsRow w.heap.size 3 1 v' (vs++[v]).length (ints (vs++[v]))):=hI (by
        rw[bm,hvl];simpa[ints]using hown')
       clear hown' hgrow HO rG gq;go_wp2_with fail;go_roundw
       case rel=>exact⟨i+1,pM.out,by go_num,vs++[v],BR,lL,HW3⟩
       case measure=>have:=pM.out;simp[intOf];omega
      ·(have hno:numOf s=none:=zba);(have hrn:r=none:=zbh);subst hrn;have ht:=EE hsp;clear hsp hno hat h64 Df HA HT hcell;generalize (⟨(Lib.itoa v).toArray⟩:ay)=sv at*;go_wp2_with (first
        |(go_at_call 46;refine HI.out.mono ?_;rintro e w2 ⟨rfl,hb2⟩;have HB2:=hI hb2;clear hb2)
        |(go_at_call 41;refine(eJ 3 w2 (hI (eE.out.after HB2.out).et)).mono ?_;rintro e w3 ⟨rfl,hb3⟩))
       exact zaW
     ·(have hrn:r=none:=zbh);exact zaR
    ·(have hil:i=l.length:=by omega);exact zaU
def xp(w:aa)(vr:ae)(rs:List Nat):Prop:=∃b o c cs,vr=.slice (some ⟨b,o,none⟩) rs.length c/\rs.length<=c/\Has w b 3 cs/\∀(j:Nat)(u:ae),(ints (zs rs))[j]?=some u->cs[o+j]?=some u
theorem xp.keep{w w':aa}{vr:ae}{rs:List Nat}(h:xp w vr rs)(hk:∀b cs,Has w b 3 cs->Has w' b 3 cs):xp w' vr rs:=by obtain⟨b,o,c,cs,h1,h2,h3,h4⟩:=h;exact⟨b,o,c,cs,h1,h2,hk b cs h3,h4⟩
theorem xp.after{w w':aa}{vr:ae}{rs:List Nat}(h:xp w vr rs)(hb:Below w.heap.size w w'):xp w' vr rs:=h.keep λ_ _ hh=>hh.after hb
theorem xp.reads{w:aa}{vr:ae}{rs:List Nat}(h:xp w vr rs):∃A c,vr=.slice A rs.length c/\rs.length<=c/\Reads w w.heap.size A (ints (zs rs)):=by obtain⟨b,o,c,cs,h1,h2,h3,h4⟩:=h;exact⟨_,c,h1,h2,λ_=>⟨b,o,rfl,h3.lt,λj u hu=>by rw[h3.cell];exact h4 j u hu⟩⟩
structure dV(w:aa)(B g:Nat)(x:fV)(vr:ae)(d:Dk):Prop where
 has:Has w g 54 #[I d.L.secs,vr,I d.L.delay,pT x.g 0]
 routes:xp w vr d.L.routes
 sys:cF w B x d.L d.s
 low:B<=g
 ok:d.L.Ok
 hB:B<=w.heap.size
def FD(g:Nat)(x:fV)(b:Nat):Prop:=b=g\/FS x b
structure lq(w w':aa)(g:Nat)(x x':fV):Prop where
 turned:Turned (FD g x) w w'
 blocks:∀b,FD g x' b->FD g x b\/w.heap.size<=b
section
variable {w w' w1:aa}{B g:Nat}{x x' x1:fV}{vr:ae}{d:Dk}{s':Sys}
theorem lq.of_below(h:Below w.heap.size w w'):lq w w' g x x:=⟨Turned.of_below h _,λ_ h=>.inl h⟩
theorem lq.PN(h:dx w w' x x'):lq w w' g x x':=⟨h.turned.mono λ_ _ hf=>.inr hf,λb hb=>by
 rcases hb with hb|hb;exact .inl (.inl hb)
 ·exact(h.blocks b hb).imp .inr id⟩
theorem lq.trans(h:lq w w1 g x x1)(h':lq w1 w' g x1 x'):lq w w' g x x':=by refine⟨h.turned.trans h'.turned λk hk hf=>?_,λb hb=>?_⟩;rcases h.blocks k hf with h1|h1;exact h1;omega;rcases h'.blocks b hb with h1|h1;exact h.blocks b h1;exact .inr (aS h.turned.size h1)
theorem dV.after(h:dV w B g x vr d)(hb:Below w.heap.size w w'):dV w' B g x vr d:=⟨h.has.after hb,h.routes.after hb,h.sys.after hb,h.low,h.ok,aS h.hB hb.size⟩
theorem dV.c3(h:dV w B g x vr d):w.cell? ⟨g,3,none⟩=some (pT x.g 0):=h.has.aJ 3 _ rfl
theorem dV.next(h:dV w B g x vr d)(hi:cN w B x d.L s' w')(hs:cU w w'):∃x',dV w' B g x' vr {d with s:=s'}/\lq w w' g x x':=by obtain⟨x',h1,h2,h3⟩:=hi;refine⟨x',⟨?_,h.routes.keep λb cs hh=>hs _ _ _ hh dC,h1,h.low,h.ok,h3⟩,lq.PN h2⟩;rw[h2.same];exact hs _ _ _ h.has dC
theorem lq.below(m:lq w w' g x x')(h:dV w B g x vr d):Below B w w':=m.turned.below (λk hk=>by
 rcases hk with rfl|hk;exact h.low
 ·exact h.sys.ge hk) h.hB
end
def NL:An->Ending
 |.txt t=>.returned (.string ⟨t.toArray⟩)
 |.err n=>.panicked (xl n)
def cv(w:aa)(B g:Nat)(x:fV)(r:Dk×An)(e:Ending)(w':aa):Prop:=e=NL r.2/\∃x' vx,dV w' B g x' vx r.1/\lq w w' g x x'
theorem cv.same{w w':aa}{B g:Nat}{x:fV}{vr:ae}{d:Dk}{a:An}{e:Ending}(h:dV w B g x vr d)(hb:Below w.heap.size w w')(he:e=NL a):cv w B g x (d,a) e w':=⟨he,x,vr,h.after hb,lq.of_below hb⟩
theorem cv.next{w w1 w':aa}{B g:Nat}{x:fV}{vr:ae}{d:Dk}{s':Sys}{a:An}{e:Ending}(h:dV w B g x vr d)(hb:Below w.heap.size w w1)(hi:cN w1 B x d.L s' w')(hs:cU w1 w')(he:e=NL a):cv w B g x ({d with s:=s'},a) e w':=by obtain⟨x',h1,h2⟩:=(h.after hb).next hi hs;exact⟨he,x',vr,h1,(lq.of_below hb).trans h2⟩
structure Words(w:aa)(A:Option Addr)(l:List ay):Prop where
 many:l.length<=100000
 size:∀s∈l,s.size<=100000
 reads:Reads w w.heap.size A (strs l)
theorem Words.after{w w':aa}{A:Option Addr}{l:List ay}(h:Words w A l)(hb:Below w.heap.size w w'):Words w' A l:=⟨h.many,h.size,(h.reads.below hb).more hb.size⟩
theorem jz{w:aa}{base:Nat}{e:aw}{v:ae}{n:Nat}{xs:List ae}(h:w.ownsRow base e 1 v n xs)(hn:0<n):∃b c cs,v=.slice (some ⟨b,0,none⟩) n c/\n<=c/\Has w b e cs/\∀(j:Nat)(u:ae),xs[j]?=some u->cs[j]?=some u:=by rcases h.2 with⟨_,h0⟩|⟨b,c,cs,rfl,_,hh,hc,_,_,ht⟩;omega;refine⟨b,c,cs,rfl,hc,hh,λj u hu=>?_⟩;rw[<-ht,List.getElem?_take]at hu;split at hu;simpa using hu;cases hu
theorem oT{w:aa}{A:Option Addr}{l:List ay}(hw:Hid (Words w A l))(c:Nat)(hs:Hid (Std w)){n:List Int}(hr:numsOf l 1=some n):
 Calls prog 39 #[.slice A l.length c,I 1] w λe w'=>(∃b c',e=.returned (.slice (some ⟨b,0,none⟩) 1 c')/\b<w'.heap.size/\w'.cell? ⟨b,0,none⟩=some (I (cC n)))/\Below w.heap.size w w':=by
 refine(oQ A c l 1 dC dC hw.out.many hw.out.size w hw.out.reads hs _ (hI hr)).mono ?_;rintro e w' ⟨⟨v,rfl,ho⟩,hb⟩;have hl:n.length=1:=by unfold numsOf at hr;split at hr;cases hr;rename_i h;rw[iC hr];unfold na at h;rw[if_pos dC]at h;simp at h;omega
 obtain⟨b,c',cs,rfl,hc,hh,hcs⟩:=jz ho oM
 match n,hl with
 |[a],_=>exact⟨⟨b,c',rfl,hh.lt,by rw[hh.cell];exact hcs 0 _ rfl⟩,hb⟩
theorem fF{w:aa}{A:Option Addr}{l:List ay}(hw:Hid (Words w A l))(c:Nat)(k:Int)(hk1: -100<=k)(hk2:k<=100)(hs:Hid (Std w))(hr:numsOf l k=none):
 Calls prog 39 #[.slice A l.length c,I k] w λe w'=>e=.panicked (xl 3)/\Below w.heap.size w w':=
 oQ A c l k hk1 hk2 hw.out.many hw.out.size w hw.out.reads hs _ (hI hr)
def lz:List (By×xm×Nat):=[
 ([97,115,107],.ask,69),([98,101,103,105,110],.begin,14),([99,97,108,109],.calm,70),([99,111,110,102,108,105,99,116,115],.conflicts,71),([99,114,97,115,104],.pp,72),([100,101,108,105,118,101,114],.cO,73),([104,101,108,112],.EC,74),([108,97,116,99,104],.su,75),([108,111,115,101],.lose,76),([109,97,110,121],.many,77),([109,111,115,116],.most,78),([114,101,112,108,105,99,97],.pQ,79),([115,101,101],.see,80),([115,104,111,119],.show,81),([116,105,99,107],.tick,82),([116,114,97,99,101],.trace,83),([116,119,105,99,101],.twice,84)]
def zx(g:Nat)(p:By×xm×Nat):ae:=.func (.func p.2.2) #[pT g 0] #[]
def MA(g:Nat)(q:(By×xm×Nat)×Nat):MapEntry:={key:=.string ⟨q.1.1.toArray⟩,val:=zx g q.1,born:=q.2}
def zy(g i:Nat):List MapEntry:=(lz.take i).zipIdx.map (MA g)
def qJ(s:By)(p:By×xm×Nat):Bool:=p.1==s
theorem PO(g:Nat)(s:ay)(q:(By×xm×Nat)×Nat):Instr.sameNow .string (.string s) (MA g q).key=some (qJ s.data.toList q.1):=by show some (s==(⟨q.1.1.toArray⟩:ay))=some (q.1.1==s.data.toList);congr 1;rw[Bool.eq_iff_iff,MapKept.bytes_beq,beq_iff_eq];constructor;rintro rfl;simp;intro h;rw[h]
theorem tM(g:Nat)(s:ay):∀(l:List (By×xm×Nat))(k j:Nat),(l.find? (qJ s.data.toList)=none->Instr.findNow .string (.string s) ((l.zipIdx k).map (MA g)) j=some none)/\(∀p,l.find? (qJ s.data.toList)=some p->∃i,Instr.findNow .string (.string s) ((l.zipIdx k).map (MA g)) j=some (some (i,zx g p)))
 |[],k,j=>⟨λ_=>rfl,λp h=>by cases h⟩
 |q::l,k,j=>by
  have ih:=tM g s l (k+1) (j+1);rw[List.zipIdx_cons,List.map_cons,List.find?_cons];unfold Instr.findNow;rw[PO];cases hq:qJ s.data.toList q with
  |true=>refine⟨λh=>(by cases h),λp h=>?_⟩;have h':some q=some p:=h;injection h' with h';subst h';exact⟨j,rfl⟩
  |false=>exact ih
theorem Gy:∀i,i<17->∀p,lz[i]?=some p->(lz.take i).find? (qJ p.1)=none:=dC
structure MapAt(w0 w:aa)(g r i:Nat):Prop where
 below:Below w0.heap.size w0 w
 ge:w0.heap.size<=r
 at_:w.heap[r]?=some (.map (zy g i).toArray i)
section
variable {w0 w:aa}{g r i:Nat}{ops:Array Oper}{rest:List Oper}{o:Oper}{a:Act}{Q:Exit->Act->aa->Prop}
theorem MB(g:Nat){i:Nat}{p:By×xm×Nat}(hp:lz[i]?=some p):zy g (i+1)=zy g i++[MA g (p,i)]:=by have hl:=(aX.1 hp).1;unfold zy;rw[List.take_add_one,hp,Option.toList_some,List.zipIdx_append,List.map_append];congr 1;rw[List.length_take,Nat.min_eq_left oM,cG];rfl
theorem TN(hw:MapAt w0 w g r i){p:By×xm×Nat}(hp:lz[i]?=some p):∃w',(Instr.mapUpdate 133 (.map (some r)) (.string ⟨p.1.toArray⟩) (zx g p)).run prog w=.ok () w'/\MapAt w0 w' g r (i+1):=by have hi:i<17:=(aX.1 hp).1;have hf:Instr.findNow .string (.string ⟨p.1.toArray⟩) (zy g i) 0=some none:=(tM g ⟨p.1.toArray⟩ _ 0 0).1 (Gy i hi p hp);have hlt:r<w.heap.size:=(az.1 hw.at_).1;refine⟨{w with heap:=w.heap.setIfInBounds r (.map ((zy g i).toArray.push (MA g (p,i))) (i+1))},?_,⟨?_,hw.ge,?_⟩⟩;simp[Instr.mapUpdate,run_underlying underlying133,MapKept.run_getObj_map hw.at_,MapKept.run_checkKey underlying9 (show MapKept.IsKey .string (.string ⟨p.1.toArray⟩)from trivial),MapKept.run_findKey underlying9 hf,MapKept.run_setObj_map _ hw.at_,Result.andThen,MA];refine⟨hw.below.os,hw.below.tape,hw.below.output,by simpa using hw.below.size,λk hk=>?_⟩;show(w.heap.setIfInBounds r _)[k]?=_;rw[bh (by have:=hw.ge;omega)];exact hw.below.block k hk;show(w.heap.setIfInBounds r _)[r]?=_;rw[MB g hp];simp[hlt]
theorem JV(hw:MapAt w0 w g r i)(hgd:o.guard=none)(m x v:Operand)(hop:o.op=Op.insert 133 m x v)(hm:a.eval m=.map (some r))(p:By×xm×Nat)(hp:lz[i]?=some p)(hx:a.eval x=.string ⟨p.1.toArray⟩)(hv:a.eval v=zx g p)
 (hK:∀w',MapAt w0 w' g r (i+1)->wpList prog ops Q rest (a.put o.dst undef) w'):wpList prog ops Q (o::rest) a w:=by
 refine wpList_plain hgd λK' hK'=>?_;obtain⟨w',hrun,r1⟩:=TN hw hp;unfold Oper.wp;simp[execOp,hop,hm,hx,hv,hrun,Result.andThen];exact hK' _ _ (hK w' r1)
theorem Wb:(prog.info? 55).map (λi=>(i.zero,i.size,i.bytes))=some (some .nilFunc,1,8):=kR
def sB(g:Nat)(s:ay):ae:=match lz.find? (qJ s.data.toList)with|none=>.nilFunc|some p=>zx g p
theorem PP(hw:MapAt w0 w g r 17)(s:ay):(Instr.lookup 133 (.map (some r)) (.string s) false).run prog w=.ok (sB g s) w:=by
 obtain⟨i0,hi0,hz0,_,_⟩:=info_parts Wb;have hz:(zeroValue 55).run prog w=.ok .nilFunc w:=by simp[zeroValue,run_typeInfo w hi0,hz0,Result.andThen]
 unfold sB;cases hq:lz.find? (qJ s.data.toList)with
 |none=>have hf:Instr.findNow .string (.string s) (zy g 17) 0=some none:=(tM g s _ 0 0).1 hq;simp[Instr.lookup,run_underlying underlying133,MapKept.run_getObj_map hw.at_,MapKept.run_checkKey underlying9 (show MapKept.IsKey .string (.string s)from trivial),MapKept.run_findKey underlying9 hf,Result.andThen,hz]
 |some p=>obtain⟨i,hf⟩:=(tM g s (lz.take 17) 0 0).2 p hq;have hf':Instr.findNow .string (.string s) (zy g 17) 0=some (some (i,zx g p)):=hf;simp[Instr.lookup,run_underlying underlying133,MapKept.run_getObj_map hw.at_,MapKept.run_checkKey underlying9 (show MapKept.IsKey .string (.string s)from trivial),MapKept.run_findKey underlying9 hf',Result.andThen]
theorem Dm(hgd:o.guard=none)(t:aw)(hop:o.op=Op.makeMap t none)(hK:wpList prog ops Q rest (a.put o.dst (.map (some w.heap.size))) (w.alloc (.map #[] 0))):wpList prog ops Q (o::rest) a w:=by refine wpList_plain hgd λK' hK'=>?_;have hr:(Instr.makeMap t none).run prog w=.ok (.map (some w.heap.size)) (w.alloc (.map #[] 0)):=rfl;unfold Oper.wp;simp[execOp,hop,hr,Result.andThen];exact hK' _ _ hK
theorem Gz(hw:MapAt w0 w g r 17)(hgd:o.guard=none)(m x:Operand)(hop:o.op=Op.lookup 133 m x false)(hm:a.eval m=.map (some r))(s:ay)(hx:a.eval x=.string s)
 (hK:wpList prog ops Q rest (a.put o.dst (sB g s)) w):wpList prog ops Q (o::rest) a w:=by
 refine wpList_plain hgd λK' hK'=>?_;unfold Oper.wp;simp[execOp,hop,hm,hx,PP hw s,Result.andThen];exact hK' _ _ hK
end
theorem Cj(g:Nat)(s:ay)(w:aa):Calls prog 49 #[pT g 0,.string s] w λe w'=>e=.returned (sB g s)/\Below w.heap.size w w':=by
 have hm:MapAt w (w.alloc (.map #[] 0)) g w.heap.size 0:=⟨(Below.refl _ _).alloc (aj _) _,aj _,by show(w.heap.push _)[w.heap.size]?=_;simp;rfl⟩;go_enter func49,ntmps49;go_wp2_with (first
  |(refine JV (w0:=w) (g:=g) (r:=w.heap.size) hm rfl _ _ _ rfl rfl _ rfl rfl rfl ?_;clear hm;intro wm hm)
  |(refine Dm rfl _ rfl ?_)
  |(refine Wc rfl _ _ _ rfl (.func _ #[pT g 0] #[]) rfl ?_)
  |(refine Gz (w0:=w) (g:=g) (r:=w.heap.size) hm rfl _ _ rfl rfl s rfl ?_))
 go_ret;exact⟨rfl,hm.below⟩
end Go.Proofs.YtdhekhlmdefcnaaGreatDoor
namespace Go.Proofs.YtdhekhlmdefcnaaGreatDoor
def needs(ops:Array Oper)(s:Nat):Nat->Nat->Bool
 |0,_=>false
 |n+1,q=>((ops[q]?).map λo=>o.after.any λe=>Region.binds .any e&&(decide (e.on=s)||needs ops s n e.on)).getD false
theorem jA{ops:Array Oper}{s:Nat}{li:Array Bool}(hc:Closed ops li):∀(n q:Nat),needs ops s n q=true->li.getD q false=true->li.getD s false=true
 |0,_,h,_=>by cases h
 |n+1,q,h,hq=>by
  unfold needs at h;cases ho:ops[q]? with
  |none=>rw[ho]at h;cases h
  |some o=>rw[ho]at h;simp only[cH,br]at h;rw[Array.any_eq_true]at h;obtain⟨k,hk,he⟩:=h;simp only[aV,cw,decide_eq_true_eq]at he;have h1:=hc q o ho hq o.after[k] (Array.getElem_mem hk) he.1;rcases he.2 with h2|h2;rw[h2]at h1;exact h1;exact jA hc n _ h2 h1
theorem qB{ops:Array Oper}{s:Nat}{li:Array Bool}(hc:Closed ops li){i:Nat}{o:Oper}(ho:ops[i]?=some o)(av:∀e∈o.after,Region.binds .any e=true->li.getD e.on false=true):∀(n:Nat),needs ops s n i=true->li.getD s false=true
 |0,h=>by cases h
 |n+1,h=>by unfold needs at h;rw[ho]at h;simp only[cH,br]at h;rw[Array.any_eq_true]at h;obtain⟨k,hk,he⟩:=h;simp only[aV,cw,decide_eq_true_eq]at he;have h1:=av o.after[k] (Array.getElem_mem hk) he.1;rcases he.2 with h2|h2;rw[h2]at h1;exact h1;exact jA hc n _ h2 h1
def tP(ops:Array Oper)(stores:List Nat):Bool:=
 (List.range stores.length).all (λt=>decide (t=0)||needs ops (stores.getD (t-1) 0) ops.size (stores.getD t 0))&&decide stores.Nodup&&stores.all (λs=>decide (s<ops.size))
section
variable {P:aF}{ops:Array Oper}{Q:Exit->Act->aa->Prop}{α:Type}
def JW(P:aF)(ops:Array Oper)(Q:Exit->Act->aa->Prop)(γ:α)(V:α->Nat->ae)(S:List Nat)(a0:Act)(i:Nat)(o:Oper)(M:aa->Prop)(N:α->aa->Prop):Prop:=
 ∀(li:Array Bool)(a:Act)(w:aa),Here ops (V γ) S a0 li a->li.getD i false=false->(∀e∈o.after,Region.binds .any e=true->li.getD e.on false=true)->M w->
  ∀K:Act->aa->Prop,(∀γ' w',N γ' w'->K (a.put o.dst (V γ' i)) w')->if Region.wanted o (yielded ops a.tmps)=true then Oper.wp P o a w K Q else K (a.put o.dst undef) w
theorem Ck{γ:α}{V:α->Nat->ae}{S:List Nat}{a0:Act}{i:Nat}{o:Oper}{M:aa->Prop}{N:α->aa->Prop}(hg:o.guard=none)
 (h:∀(li:Array Bool)(a:Act)(w:aa),Here ops (V γ) S a0 li a->li.getD i false=false->(∀e∈o.after,Region.binds .any e=true->li.getD e.on false=true)->M w->∀K:Act->aa->Prop,(∀γ' w',N γ' w'->K (a.put o.dst (V γ' i)) w')->Oper.wp P o a w K Q):
 JW P ops Q γ V S a0 i o M N:=by
 exact za1
def TP(P:aF)(ops:Array Oper)(Q:Exit->Act->aa->Prop)(V:α->Nat->ae)(S:List Nat)(stores:List Nat)(Ms:Nat->α->aa->Prop)(b0:Act)(i:Nat)(o:Oper):Prop:=
 (i∉stores/\∀(γ:α)(M:aa->Prop),StepA P ops Q (V γ) S b0 i o M M)\/(stores[0]?=some i/\∀γ,JW P ops Q γ V S b0 i o (Ms 0 γ) (Ms 1))\/(∃t,0<t/\stores[t]?=some i/\∀γ,StepA P ops Q (V γ) S b0 i o (Ms t γ) (Ms (t+1) γ))\/
 (i∉stores/\∃t s,stores[t]?=some s/\needs ops i ops.size s=true/\∀γ j,j<=t->StepA P ops Q (V γ) S b0 i o (Ms j γ) (Ms j γ))
theorem sD{id:Nat}{w:aa}{a0:Act}(hm:P.follows .mixedOrders=true)(F:Act->Prop)(hF:F a0)(n:Nat)(hn:a0.tmps.size=n)(γ0:α)(V:α->Nat->ae)(stores:List Nat)(hc:tP ops stores=true)(dep:List Nat)
 (aaX:dep.all (λq=>decide (stores[0]?=some q)||needs ops (stores.getD 0 0) ops.size q)=true)(hs0:stores≠[])(hV:∀γ γ' q,q∉dep->V γ q=V γ' q)(Ms:Nat->α->aa->Prop)(S:List Nat)
 (hd:jJ ops S n=true)(hb:(List.range ops.size).all (λi=>((ops[i]?).map λo=>o.after.all λe=>!Region.binds .any e||decide (e.on<i)).getD true)=true)
 (h0:Ms 0 γ0 {w with drawn:=w.drawn+1})
 (hstep:∀b0,F b0->∀i o,ops[i]?=some o->TP P ops Q V S stores Ms b0 i o)
 (hend:∀γ a w',gM S a0 a->(∀i o,ops[i]?=some o->∀d,o.dst=some d->a.tmps.getD d undef=V γ i)->Ms stores.length γ w'->Q .normal a w'):(Code.region id ops true).wp P Q a0 w:=by
 unfold tP at hc;simp only[aV,decide_eq_true_eq]at hc;obtain⟨⟨hch,hnd⟩,hsz⟩:=hc;have fP:∀j,(Array.replicate ops.size false).getD j false=false:=λj=>by rw[aU,Array.getElem?_replicate];split<;>rfl
 have hd':jJ ops S a0.tmps.size=true:=by rw[hn];exact hd
 refine oH hm (λli a w'=>∃γ,Here ops (V γ) S a0 li a/\L6 stores (λj=>Ms j γ) li w') ⟨γ0,⟨sM,gM.refl _ _,(λj o _ hl=>absurd hl zbb),(λj o _ hl=>absurd hl zbb),λ_ _=>rfl⟩,0,bT _,(λt s _=>by rw[fP];simp),h0⟩ ?_ ?_
 ·intro i li a w' hi hJ;obtain⟨γ,hH,j,hj,hst,hM⟩:=hJ;obtain⟨uT,o,ho,av⟩:=mem_ready.1 hi;have hlt:=(az.1 ho).1;have hs:=hH.size;have hnot:li.getD i false=false:=by rw[aU]at uT⊢;rw[aZ oM]at uT⊢;exact uT
  have hset:(li.setIfInBounds i true).getD i false=true:=by simp[hs,hlt]
  have next:∀γ' v,v=V γ' i->qo ops (V γ') li a->Here ops (V γ') S a0 (li.setIfInBounds i true) (a.put o.dst v):=by
   rintro γ' v rfl hkn;refine⟨by simpa using hs,hH.cA.puts hd' ho _,hkn.put hd' hH.cA.size ho,?_,?_⟩;intro q oq hq hl e he hbe;by_cases e1:i=q;subst e1;rw[ho]at hq;injection hq with hq;subst hq;have h1:=av e he hbe;by_cases e2:i=e.on;rw[<-e2,hnot]at h1;cases h1;exact za7;rw[getD_set_ne false e1]at hl;have h1:=hH.closed q oq hq hl e he hbe;by_cases e2:i=e.on;rw[<-e2];exact hset;exact za7
   ·intro d rS;have h1:o.dst≠some d:=λe=>by have:=rS i o ho e;rw[hset]at this;cases this
    have h2:(a.put o.dst (V γ' i)).tmps[d]?=a.tmps[d]?:=by
     cases hod:o.dst with
     |none=>rfl
     |some d0=>have hne:d0≠d:=λe=>h1 (by rw[hod,e]);show(a.tmps.setIfInBounds d0 (V γ' i))[d]?=_;rw[bh hne]
    rw[h2];refine hH.F3 d (λq oq hq F4=>?_);have:=rS q oq hq F4;by_cases e1:i=q;subst e1;exact hnot;rw[getD_set_ne false e1]at this;exact this
  refine wpOp_step ho (λK' hK'=>?_);have hsl:0<stores.length:=List.length_pos_iff.2 hs0;rcases hstep a0 hF i o ho with⟨hns,hp⟩|⟨ht,hp⟩|⟨t,ht0,ht,hp⟩|⟨hns,t,s,ht,L8,hp⟩
  ·refine hp γ (Ms j γ) li a w' hH hnot av hM K' (λw'' hM'=>hK' _ _ ⟨γ,next γ _ rfl hH.known,j,hj,λt s hts=>?_,hM'⟩);rw[getD_set_ne false (λe=>hns za0)];exact hst t s hts
  ·(have hj0:j=0:=by have h1:=hst 0 i ht;rw[hnot]at h1;(have h2:¬0<j:=zbj);omega);subst hj0;(have ht0:stores.getD 0 0=i:=by rw[aD,ht];rfl);refine hp γ li a w' hH hnot av hM K' (λγ' w'' hM'=>hK' _ _ ⟨γ',next γ' _ rfl ?_,1,oM,λt s hts=>?_,hM'⟩);intro q oq hq hl d rS;rw[hV γ' γ q (λF4=>?_)];exact hH.known q oq hq hl d rS;have h1:=bj.1 aaX q F4;rw[cw,decide_eq_true_eq]at h1;rcases h1 with h1|h1;rw[ht]at h1;injection h1 with h1;rw[<-h1,hnot]at hl;cases hl;rw[ht0]at h1;exact zbe;by_cases e:s=i;subst e;rw[hset];have:t=0:=(List.getElem?_inj (aX.1 hts).1 hnd).1 (hts.trans ht.symm);rw[this];simp;rw[getD_set_ne false (λe'=>e e'.symm),hst t s hts,decide_eq_decide];(have:t≠0:=λe'=>by exact zaZ);omega
  ·have htl:t<stores.length:=(aX.1 ht).1;(have hjt:j=t:=by have h1:=hst t i ht;rw[hnot]at h1;(have h2:¬t<j:=zbj);rcases Nat.eq_zero_or_pos t with h|h;omega;have h3:=bj.1 hch t (bX.2 htl);simp only[cw,decide_eq_true_eq]at h3;(have h4:needs ops (stores.getD (t-1) 0) ops.size i=true:=by rcases h3 with h3|h3;omega;rw[aD (l:=stores) (i:=t),ht]at h3;exact h3);exact zaN);subst hjt;refine hp γ li a w' hH hnot av hM K' (λw'' hM'=>hK' _ _ ⟨γ,next γ _ rfl hH.known,j+1,oM,λt s hts=>?_,hM'⟩);by_cases e:s=i;exact za2;rw[getD_set_ne false (λe'=>e e'.symm),hst t s hts,decide_eq_decide];(have:t≠j:=λe'=>by exact zaZ);omega
  ·(have hjt:j<=t:=by rcases cp t j with h|h;exact zaO;exact h);refine hp γ j hjt li a w' hH hnot av hM K' (λw'' hM'=>hK' _ _ ⟨γ,next γ _ rfl hH.known,j,hj,λt s hts=>?_,hM'⟩);rw[getD_set_ne false (λe=>hns za0)];exact hst t s hts
 ·intro li a w' hJ hr;obtain⟨γ,hH,j,hj,hst,hM⟩:=hJ;have hall:=oI hr hH.size hb;refine hend γ a w' hH.cA (λi o ho d hd=>hH.known i o ho (hall i (az.1 ho).1) d hd) ?_;have:j=stores.length:=by rcases Nat.eq_zero_or_pos stores.length with h|h;omega;exact zaM
  subst this;exact hM
end
open Go.Proofs.Tryz Go.RowKit
section
variable {w:aa}{B g:Nat}{x:fV}{vr:ae}{d:Dk}{T:Nat}{A:Option Addr}{l:List ay}{c:Nat}
theorem fL{w w':aa}(h:Hid (Std w))(hb:Below w.heap.size w w'):Hid (Std w'):=hI (h.out.after hb)
theorem fM{w w':aa}(h:Hid (Words w A l))(hb:Below w.heap.size w w'):Hid (Words w' A l):=hI (h.out.after hb)
theorem tQ(a:bw)(h:a.size=15):∃t0 t1 t2 t3 t4 t5 t6 t7 t8 t9 t10 t11 t12 t13 t14,a= #[t0,t1,t2,t3,t4,t5,t6,t7,t8,t9,t10,t11,t12,t13,t14]:=by
 obtain⟨l⟩:=a
 match l,h with
 |[t0,t1,t2,t3,t4,t5,t6,t7,t8,t9,t10,t11,t12,t13,t14],_=>exact⟨t0,t1,t2,t3,t4,t5,t6,t7,t8,t9,t10,t11,t12,t13,t14,rfl⟩
def tR(ps:String)(X:Nat):Array Oper:=#[{dst:=some 5,op:=Op.move (Operand.tmp 0),type:=48,pos:=ps,after:=#[],guard:=none},{dst:=some 6,op:=Op.nilCheck (Operand.tmp 5),type:=0,pos:=ps,after:=#[{on:=0,ground:=Ground.data}],guard:=none},{dst:=some 7,op:=Op.fieldAddr 54 (Operand.tmp 6) 1,type:=0,pos:=ps,after:=#[{on:=1,ground:=Ground.data}],guard:=none},{dst:=some 8,op:=Op.load 52 (Operand.tmp 7),type:=52,pos:=ps,after:=#[{on:=2,ground:=Ground.data}],guard:=none},{dst:=some 9,op:=Op.move (Operand.tmp 1),type:=22,pos:=ps,after:=#[],guard:=none},{dst:=some 10,op:=Op.call {callee:=Callee.value (Operand.func 39),args:=#[Operand.tmp 9,Operand.const (Value.int IntKind.i64 1)],argTypes:=#[22,3]},type:=49,pos:=ps,after:=#[{on:=4,ground:=Ground.data}],guard:=none},{dst:=some 11,op:=Op.indexAddr 49 (Operand.tmp 10) (Operand.const (Value.int IntKind.i64 0)),type:=0,pos:=ps,after:=#[{on:=5,ground:=Ground.data}],guard:=none},{dst:=some 12,op:=Op.load 3 (Operand.tmp 11),type:=3,pos:=ps,after:=#[{on:=6,ground:=Ground.data}],guard:=none},{dst:=some 13,op:=Op.call {callee:=Callee.value (Operand.func X),args:=#[Operand.tmp 8,Operand.tmp 12],argTypes:=#[52,3]},type:=25,pos:=ps,after:=#[{on:=3,ground:=Ground.data},{on:=7,ground:=Ground.data},{on:=5,ground:=Ground.chain}],guard:=none},{dst:=some 14,op:=Op.call {callee:=Callee.value (Operand.func 41),args:=#[Operand.tmp 13],argTypes:=#[25]},type:=0,pos:=ps,after:=#[{on:=8,ground:=Ground.data},{on:=8,ground:=Ground.chain}],guard:=none}]
theorem nw{Q:Exit->Act->aa->Prop}{a0:Act}(ps:String)(X:Nat)(h0:a0.tmps.getD 0 undef=pT g 0)(h1:a0.tmps.getD 1 undef=.slice A l.length c)(EF:a0.defers=[])(hsz:a0.tmps.size=15)(hg:g<w.heap.size)(hc3:w.cell? ⟨g,3,none⟩=some (pT x.g 0))
 (HN:Hid (∀w1,Below w.heap.size w w1->Calls prog 39 #[.slice A l.length c,I 1] w1 λe w'=>e=.panicked (xl 3)/\Below w1.heap.size w1 w'))
 (hQ:∀a w',a.defers=[]->Below w.heap.size w w'->Q (.panic (xl 3)) a w'):(Code.region 1 (tR ps X) true).wp prog Q a0 w:=by
 unfold tR;refine sD kR (λb0=>b0.tmps.getD 0 undef=pT g 0/\b0.tmps.getD 1 undef=.slice A l.length c/\b0.defers=[]) ⟨h0,h1,EF⟩ 15 hsz (0,0) (λ(γ:Nat×Nat) i=>([pT g 0,pT g 0,pT g 3,pT x.g 0,.slice A l.length c,.slice (some ⟨γ.1,0,none⟩) 1 γ.2,pT γ.1 0,I 0,undef,undef]:List ae).getD i undef) [5,7,8,9] kR [5,6] kR dC ?_ (λj γ=>([(λ_=>λwx=>Below w.heap.size w wx) γ,(λ_=>λ_=>False) γ,(λ_=>λ_=>False) γ,(λ_=>λ_=>False) γ,(λ_=>λ_=>False) γ]:List (aa->Prop)).getD j (λ_=>True)) [5,6,7,8,9,10,11,12,13,14] kR kR ((Below.refl _ _).drew) ?_ ?_;intro γ γ' j hj;by_cases hjm:j<10;(have hcase:j=0\/j=1\/j=2\/j=3\/j=4\/j=5\/j=6\/j=7\/j=8\/j=9:=by omega);exact zaS;rw[aD,aD,bV za3,bV za3]
 ·intro b0 hb0 i o ho;have hi:i<10:=(az.1 ho).1;obtain⟨f0,f1,fp⟩:=hb0;have hcase:i=0\/i=1\/i=2\/i=3\/i=4\/i=5\/i=6\/i=7\/i=8\/i=9:=oM;clear hi;rcases hcase with rfl|rfl|rfl|rfl|rfl|rfl|rfl|rfl|rfl|rfl<;>simp only[ba,bf,aY]at ho<;>cases ho
  ·exact zaH
  ·exact zaJ
  ·exact zaI
  ·refine .inr (.inr (.inr ⟨dC,2,8,rfl,kR,λγ j hj=>?_⟩));have hj2:j=0\/j=1\/j=2:=oM;clear hj;rcases hj2 with rfl|rfl|rfl
   ·refine aM rfl (λli ac wx H hn av hM K hk=>?_);have e7:ac.tmps[7]?.getD undef=pT g 3:=H.k av 2 7;have hM1:(λ_=>λwx=>Below w.heap.size w wx) γ wx:=hM;clear av H;first|exact hM1.elim|(have c3:=(Below.cell hM1 (p:=⟨g,3,none⟩) hg).trans hc3;go_simp;exact hk _ hM)
   ·exact zaL
   ·exact zaL
  ·exact zaF
  ·refine .inr (.inl ⟨rfl,λγ=>Ck rfl (λli ac wx H hn av hM K hk=>?_)⟩);have e9:ac.tmps[9]?.getD undef=.slice A l.length c:=H.k av 4 9;have hM1:(λ_=>λwx=>Below w.heap.size w wx) γ wx:=hM;have hdf:=hI (H.cA.defers.trans fp);clear av H;go_simp;refine(HN.out wx hM1).mono ?_;exact za8
  ·exact zaD
  ·refine .inr (.inr (.inl ⟨1,dC,rfl,λγ=>aM rfl (λli ac wx H hn av hM K hk=>?_)⟩));have e11:ac.tmps[11]?.getD undef=pT γ.1 0:=H.k av 6 11;exact zaP
  ·refine .inr (.inr (.inl ⟨2,dC,rfl,λγ=>aM rfl (λli ac wx H hn av hM K hk=>?_)⟩));have e8:ac.tmps[8]?.getD undef=pT x.g 0:=H.k av 3 8;have e12:ac.tmps[12]?.getD undef=I 0:=H.k av 7 12;exact zaP
  ·refine .inr (.inr (.inl ⟨3,dC,rfl,λγ=>aM rfl (λli ac wx H hn av hM K hk=>?_)⟩));have e13:ac.tmps[13]?.getD undef=undef:=H.k av 8 13;exact zaP
 ·exact za9
theorem lX{Q:Exit->Act->aa->Prop}{a0:Act}(ps:String)(X:Nat)(n0:Int)(h0:a0.tmps.getD 0 undef=pT g 0)(h1:a0.tmps.getD 1 undef=.slice A l.length c)(EF:a0.defers=[])(hsz:a0.tmps.size=15)(hg:g<w.heap.size)(hc3:w.cell? ⟨g,3,none⟩=some (pT x.g 0))
 (HN:Hid (∀w1,Below w.heap.size w w1->Calls prog 39 #[.slice A l.length c,I 1] w1 λe w'=>(∃b c',e=.returned (.slice (some ⟨b,0,none⟩) 1 c')/\b<w'.heap.size/\w'.cell? ⟨b,0,none⟩=some (I n0))/\Below w1.heap.size w1 w'))
 (HX:Hid (∀w1,Below w.heap.size w w1->Calls prog X #[pT x.g 0,I n0] w1 λe w'=>e=.returned fX/\Below w1.heap.size w1 w'))(HS:Hid (Std w))(oa:Hid (∀args w,(callFunc X args).run prog w=.ok (.enter X args) w))
 (hQ:∀a w',a.defers=[]->Below w.heap.size w w'->Q (.panic (xl 2)) a w'):(Code.region 1 (tR ps X) true).wp prog Q a0 w:=by
 unfold tR;refine sD kR (λb0=>b0.tmps.getD 0 undef=pT g 0/\b0.tmps.getD 1 undef=.slice A l.length c/\b0.defers=[]) ⟨h0,h1,EF⟩ 15 hsz (0,0) (λ(γ:Nat×Nat) i=>([pT g 0,pT g 0,pT g 3,pT x.g 0,.slice A l.length c,.slice (some ⟨γ.1,0,none⟩) 1 γ.2,pT γ.1 0,I n0,fX,undef]:List ae).getD i undef) [5,7,8,9] kR [5,6] kR dC ?_ (λj γ=>([(λ_=>λwx=>Below w.heap.size w wx) γ,(λγ=>λwx=>Below w.heap.size w wx/\wx.cell? ⟨γ.1,0,none⟩=some (I n0)) γ,(λγ=>λwx=>Below w.heap.size w wx/\wx.cell? ⟨γ.1,0,none⟩=some (I n0)) γ,(λ_=>λwx=>Below w.heap.size w wx) γ,(λ_=>λ_=>False) γ]:List (aa->Prop)).getD j (λ_=>True)) [5,6,7,8,9,10,11,12,13,14] kR kR ((Below.refl _ _).drew) ?_ ?_;intro γ γ' j hj;by_cases hjm:j<10;(have hcase:j=0\/j=1\/j=2\/j=3\/j=4\/j=5\/j=6\/j=7\/j=8\/j=9:=by omega);exact zaS;rw[aD,aD,bV za3,bV za3]
 ·intro b0 hb0 i o ho;have hi:i<10:=(az.1 ho).1;obtain⟨f0,f1,fp⟩:=hb0;have hcase:i=0\/i=1\/i=2\/i=3\/i=4\/i=5\/i=6\/i=7\/i=8\/i=9:=oM;clear hi;rcases hcase with rfl|rfl|rfl|rfl|rfl|rfl|rfl|rfl|rfl|rfl<;>simp only[ba,bf,aY]at ho<;>cases ho
  ·exact zaH
  ·exact zaJ
  ·exact zaI
  ·refine .inr (.inr (.inr ⟨dC,2,8,rfl,kR,λγ j hj=>?_⟩));have hj2:j=0\/j=1\/j=2:=oM;clear hj;rcases hj2 with rfl|rfl|rfl;exact zaG;exact zaB;exact zaB
  ·exact zaF
  ·exact zaC
  ·exact zaD
  ·exact zaK
  ·refine .inr (.inr (.inl ⟨2,dC,rfl,λγ=>aM rfl (λli ac wx H hn av hM K hk=>?_)⟩));have e8:ac.tmps[8]?.getD undef=pT x.g 0:=H.k av 3 8;have e12:ac.tmps[12]?.getD undef=I n0:=H.k av 7 12;have hM1:=hM;simp only[aL,aK]at hM1;have hdf:=hI (H.cA.defers.trans fp);clear av H;have eX:=oa.out;go_simp;refine(HX.out wx hM1.1).mono ?_;rintro e w' ⟨rfl,hb⟩;exact hk _ (hM1.1.trans (hb.mono hM1.1.size))
  ·refine .inr (.inr (.inl ⟨3,dC,rfl,λγ=>aM rfl (λli ac wx H hn av hM K hk=>?_)⟩));have e13:ac.tmps[13]?.getD undef=fX:=H.k av 8 13;have hM1:(λ_=>λwx=>Below w.heap.size w wx) γ wx:=hM;have hdf:=hI (H.cA.defers.trans fp);clear av H;go_simp;refine(eJ 2 wx (hI (HS.out.after hM1).et)).mono ?_;exact za8
 ·exact za9
theorem tT{Q:Exit->Act->aa->Prop}{a0:Act}(ps:String)(X:Nat)(n0:Int)(h0:a0.tmps.getD 0 undef=pT g 0)(h1:a0.tmps.getD 1 undef=.slice A l.length c)(EF:a0.defers=[])(hsz:a0.tmps.size=15)(hg:g<w.heap.size)(hc3:w.cell? ⟨g,3,none⟩=some (pT x.g 0))
 (HN:Hid (∀w1,Below w.heap.size w w1->Calls prog 39 #[.slice A l.length c,I 1] w1 λe w'=>(∃b c',e=.returned (.slice (some ⟨b,0,none⟩) 1 c')/\b<w'.heap.size/\w'.cell? ⟨b,0,none⟩=some (I n0))/\Below w1.heap.size w1 w'))
 (Done:aa->Prop)(HX:Hid (∀w1,Below w.heap.size w w1->Calls prog X #[pT x.g 0,I n0] w1 λe w'=>e=.returned .nilIface/\Done w'))(oa:Hid (∀args w,(callFunc X args).run prog w=.ok (.enter X args) w))
 (hE:∀a w',a.defers=[]->a.tmps.size=15->Done w'->Q .normal a w'):(Code.region 1 (tR ps X) true).wp prog Q a0 w:=by
 unfold tR;refine sD kR (λb0=>b0.tmps.getD 0 undef=pT g 0/\b0.tmps.getD 1 undef=.slice A l.length c/\b0.defers=[]) ⟨h0,h1,EF⟩ 15 hsz (0,0) (λ(γ:Nat×Nat) i=>([pT g 0,pT g 0,pT g 3,pT x.g 0,.slice A l.length c,.slice (some ⟨γ.1,0,none⟩) 1 γ.2,pT γ.1 0,I n0,.nilIface,.tuple #[]]:List ae).getD i undef) [5,7,8,9] kR [5,6] kR dC ?_ (λj γ=>([(λ_=>λwx=>Below w.heap.size w wx) γ,(λγ=>λwx=>Below w.heap.size w wx/\wx.cell? ⟨γ.1,0,none⟩=some (I n0)) γ,(λγ=>λwx=>Below w.heap.size w wx/\wx.cell? ⟨γ.1,0,none⟩=some (I n0)) γ,(λ_=>λwx=>Hid (Done wx)) γ,(λ_=>λwx=>Hid (Done wx)) γ]:List (aa->Prop)).getD j (λ_=>True)) [5,6,7,8,9,10,11,12,13,14] kR kR ((Below.refl _ _).drew) ?_ ?_;intro γ γ' j hj;by_cases hjm:j<10;(have hcase:j=0\/j=1\/j=2\/j=3\/j=4\/j=5\/j=6\/j=7\/j=8\/j=9:=by omega);exact zaS;rw[aD,aD,bV za3,bV za3]
 ·intro b0 hb0 i o ho;have hi:i<10:=(az.1 ho).1;obtain⟨f0,f1,fp⟩:=hb0;have hcase:i=0\/i=1\/i=2\/i=3\/i=4\/i=5\/i=6\/i=7\/i=8\/i=9:=oM;clear hi;rcases hcase with rfl|rfl|rfl|rfl|rfl|rfl|rfl|rfl|rfl|rfl<;>simp only[ba,bf,aY]at ho<;>cases ho
  ·exact zaH
  ·exact zaJ
  ·exact zaI
  ·refine .inr (.inr (.inr ⟨dC,2,8,rfl,kR,λγ j hj=>?_⟩));have hj2:j=0\/j=1\/j=2:=oM;clear hj;rcases hj2 with rfl|rfl|rfl;exact zaG;exact zaB;exact zaB
  ·exact zaF
  ·exact zaC
  ·exact zaD
  ·exact zaK
  ·refine .inr (.inr (.inl ⟨2,dC,rfl,λγ=>aM rfl (λli ac wx H hn av hM K hk=>?_)⟩));have e8:ac.tmps[8]?.getD undef=pT x.g 0:=H.k av 3 8;have e12:ac.tmps[12]?.getD undef=I n0:=H.k av 7 12;have hM1:=hM;simp only[aL,aK]at hM1;have hdf:=hI (H.cA.defers.trans fp);clear av H;have eX:=oa.out;go_simp;refine(HX.out wx hM1.1).mono ?_;rintro e w' ⟨rfl,hi⟩;exact hk _ (hI hi)
  ·refine .inr (.inr (.inl ⟨3,dC,rfl,λγ=>aM rfl (λli ac wx H hn av hM K hk=>?_)⟩));have e13:ac.tmps[13]?.getD undef=.nilIface:=H.k av 8 13;have hM1:(λ_=>λwx=>Hid (Done wx)) γ wx:=hM;have hdf:=hI (H.cA.defers.trans fp);clear av H;go_simp;refine(nv wx).mono ?_;rintro e w' ⟨rfl,rfl⟩;exact hk _ hM1
 ·intro γ ac wx hF hK hM0;have hM:(λ_=>λwx=>Hid (Done wx)) γ wx:=hM0;exact hE ac wx (hF.defers.trans EF) (hF.size.trans hsz) hM.out
theorem Za(h:dV w B g x vr d)(hf:bL T d.s)(hT:T<=9900000000)(hw:Words w A l)(c:Nat)(hs:Std w):Calls prog 69 #[pT g 0,.slice A l.length c] w (cv w B g x (bB .ask d l)):=by
 have hc3:=h.c3;have hg:=h.has.lt;have HH:=hI h;have HW:=hI hw;have HS:=hI hs;have HF:=hI hf;clear h hw hs hf;have oa:Hid (∀args w,(callFunc 95 args).run prog w=.ok (.enter 95 args) w):=hI (enters_of func95 kR rfl);cases hr:numsOf l 1 with
 |none=>have HE:Hid (bB .ask d l=(d,.err 3)):=hI zaE;rw[HE.out];have HN:=hI (λw1 (hb:Below w.heap.size w w1)=>fF (fM HW hb) c 1 dC dC (fL HS hb) hr);clear hr HE;go_enter func69,ntmps69;go_upto_region 1 with fail;exact nw "desk.go:77" 95 rfl rfl rfl rfl hg hc3 HN (λa w' hd hb=>⟨hd,cv.same HH.out hb rfl⟩)
 |some n=>
  have HE:Hid (bB .ask d l=fw d (eP (cC n)) (js d.s (cC n).toNat) [97,115,107]):=hI zaE;rw[HE.out];have HN:=hI (λw1 (hb:Below w.heap.size w w1)=>oT (fM HW hb) c (fL HS hb) hr);clear hr HE;by_cases hok:(eP (cC n))=true
  ·rw[hok];have hE2:fw d true (js d.s (cC n).toNat) [97,115,107]=({d with s:=js d.s (cC n).toNat},.txt [97,115,107]):=rfl;rw[hE2];clear hE2;(obtain⟨k,hk,hk3⟩:∃k:Nat,cC n=k/\k<3:=zaY);have HX:=hI (λw1 (hb:Below w.heap.size w w1)=>show Calls prog 95 #[pT x.g 0,I (cC n)] w1 (λe w'=>e=.returned .nilIface/\cN w1 B x d.L (js d.s (cC n).toNat) w'/\cU w1 w')from by
    rw[hk,cg];refine(S9 (cN.start (HH.out.after hb).sys (HH.out.after hb).hB) HF.out oM k hk3).mono ?_;rintro e w' ⟨⟨v,rfl,rfl⟩,h2,h3⟩;exact⟨rfl,h2,h3⟩)
   clear hk hok;go_enter func69,ntmps69;go_upto_region 1 with fail;refine tT "desk.go:77" 95 (cC n) rfl rfl rfl rfl hg hc3 HN (λwx=>∃w1,Below w.heap.size w w1/\cN w1 B x d.L (js d.s (cC n).toNat) wx/\cU w1 wx) (hI λw1 hb=>(HX.out w1 hb).mono λ_ _ h=>⟨h.1,w1,hb,h.2⟩) oa ?_;rintro⟨tm,df⟩ w' hd hs ⟨w1,h1,h2,h3⟩;obtain rfl:df=[]:=hd;have hu:=tQ tm hs;clear hs HN HX;obtain⟨t0,t1,t2,t3,t4,t5,t6,t7,t8,t9,t10,t11,t12,t13,t14,rfl⟩:=hu;go_wp2;go_ret;exact cv.next HH.out h1 h2 h3 rfl
  ·rw[Bool.eq_false_iff.2 hok];have hE2:fw d false (js d.s (cC n).toNat) [97,115,107]=(d,.err 2):=rfl;rw[hE2];clear hE2;have HX:=hI (λw1 (hb:Below w.heap.size w w1)=>Pz x.g (cC n) zbf w1);clear hok;go_enter func69,ntmps69;go_upto_region 1 with fail;exact lX "desk.go:77" 95 (cC n) rfl rfl rfl rfl hg hc3 HN HX HS oa (λa w' hd hb=>⟨hd,cv.same HH.out hb rfl⟩)
theorem TQ(h:dV w B g x vr d)(hf:bL T d.s)(_hT:T<=9900000000)(hw:Words w A l)(c:Nat)(hs:Std w):Calls prog 72 #[pT g 0,.slice A l.length c] w (cv w B g x (bB .pp d l)):=by
 have hc3:=h.c3;have hg:=h.has.lt;have HH:=hI h;have HW:=hI hw;have HS:=hI hs;have HF:=hI hf;clear h hw hs hf;have oa:Hid (∀args w,(callFunc 99 args).run prog w=.ok (.enter 99 args) w):=hI (enters_of func99 kR rfl);cases hr:numsOf l 1 with
 |none=>have HE:Hid (bB .pp d l=(d,.err 3)):=hI zaE;rw[HE.out];have HN:=hI (λw1 (hb:Below w.heap.size w w1)=>fF (fM HW hb) c 1 dC dC (fL HS hb) hr);clear hr HE;go_enter func72,ntmps72;go_upto_region 1 with fail;exact nw "desk.go:97" 99 rfl rfl rfl rfl hg hc3 HN (λa w' hd hb=>⟨hd,cv.same HH.out hb rfl⟩)
 |some n=>
  have HE:Hid (bB .pp d l=fw d (eP (cC n)) (iz d.s (cC n).toNat) [99,114,97,115,104]):=hI zaE;rw[HE.out];have HN:=hI (λw1 (hb:Below w.heap.size w w1)=>oT (fM HW hb) c (fL HS hb) hr);clear hr HE;by_cases hok:(eP (cC n))=true
  ·rw[hok];have hE2:fw d true (iz d.s (cC n).toNat) [99,114,97,115,104]=({d with s:=iz d.s (cC n).toNat},.txt [99,114,97,115,104]):=rfl;rw[hE2];clear hE2;(obtain⟨k,hk,hk3⟩:∃k:Nat,cC n=k/\k<3:=zaY);have HX:=hI (λw1 (hb:Below w.heap.size w w1)=>show Calls prog 99 #[pT x.g 0,I (cC n)] w1 (λe w'=>e=.returned .nilIface/\cN w1 B x d.L (iz d.s (cC n).toNat) w'/\cU w1 w')from by
    rw[hk,cg];refine(Px (cN.start (HH.out.after hb).sys (HH.out.after hb).hB) HH.out.ok k hk3).mono ?_;rintro e w' ⟨⟨v,rfl,rfl⟩,h2,h3⟩;exact⟨rfl,h2,h3⟩)
   clear hk hok;go_enter func72,ntmps72;go_upto_region 1 with fail;refine tT "desk.go:97" 99 (cC n) rfl rfl rfl rfl hg hc3 HN (λwx=>∃w1,Below w.heap.size w w1/\cN w1 B x d.L (iz d.s (cC n).toNat) wx/\cU w1 wx) (hI λw1 hb=>(HX.out w1 hb).mono λ_ _ h=>⟨h.1,w1,hb,h.2⟩) oa ?_;rintro⟨tm,df⟩ w' hd hs ⟨w1,h1,h2,h3⟩;obtain rfl:df=[]:=hd;have hu:=tQ tm hs;clear hs HN HX;obtain⟨t0,t1,t2,t3,t4,t5,t6,t7,t8,t9,t10,t11,t12,t13,t14,rfl⟩:=hu;go_wp2;go_ret;exact cv.next HH.out h1 h2 h3 rfl
  ·rw[Bool.eq_false_iff.2 hok];have hE2:fw d false (iz d.s (cC n).toNat) [99,114,97,115,104]=(d,.err 2):=rfl;rw[hE2];clear hE2;have HX:=hI (λw1 (hb:Below w.heap.size w w1)=>Mu x.g (cC n) zbf w1);clear hok;go_enter func72,ntmps72;go_upto_region 1 with fail;exact lX "desk.go:97" 99 (cC n) rfl rfl rfl rfl hg hc3 HN HX HS oa (λa w' hd hb=>⟨hd,cv.same HH.out hb rfl⟩)
theorem MC(h:dV w B g x vr d)(hf:bL T d.s)(hT:T<=9900000000)(hw:Words w A l)(c:Nat)(hs:Std w):Calls prog 73 #[pT g 0,.slice A l.length c] w (cv w B g x (bB .cO d l)):=by
 have hc3:=h.c3;have hg:=h.has.lt;have HH:=hI h;have HW:=hI hw;have HS:=hI hs;have HF:=hI hf;clear h hw hs hf;have oa:Hid (∀args w,(callFunc 100 args).run prog w=.ok (.enter 100 args) w):=hI (enters_of func100 kR rfl);cases hr:numsOf l 1 with
 |none=>have HE:Hid (bB .cO d l=(d,.err 3)):=hI zaE;rw[HE.out];have HN:=hI (λw1 (hb:Below w.heap.size w w1)=>fF (fM HW hb) c 1 dC dC (fL HS hb) hr);clear hr HE;go_enter func73,ntmps73;go_upto_region 1 with fail;exact nw "desk.go:82" 100 rfl rfl rfl rfl hg hc3 HN (λa w' hd hb=>⟨hd,cv.same HH.out hb rfl⟩)
 |some n=>
  have HE:Hid (bB .cO d l=fw d (kj d (cC n)) (cO d.L d.s (cC n).toNat) [100,101,108,105,118,101,114]):=hI zaE;rw[HE.out];have HN:=hI (λw1 (hb:Below w.heap.size w w1)=>oT (fM HW hb) c (fL HS hb) hr);clear hr HE;by_cases hok:(kj d (cC n))=true
  ·rw[hok];have hE2:fw d true (cO d.L d.s (cC n).toNat) [100,101,108,105,118,101,114]=({d with s:=cO d.L d.s (cC n).toNat},.txt [100,101,108,105,118,101,114]):=rfl;rw[hE2];clear hE2;(obtain⟨k,hk,hk3⟩:∃k:Nat,cC n=k/\k<d.s.way.length:=zaQ);have HX:=hI (λw1 (hb:Below w.heap.size w w1)=>show Calls prog 100 #[pT x.g 0,I (cC n)] w1 (λe w'=>e=.returned .nilIface/\cN w1 B x d.L (cO d.L d.s (cC n).toNat) w'/\cU w1 w')from by
    rw[hk,cg];refine(Ez (cN.start (HH.out.after hb).sys (HH.out.after hb).hB) HF.out HH.out.ok oM k (.inl hk3)).mono ?_;rintro e w' ⟨⟨v,rfl,hv⟩,h2,h3⟩;exact⟨by rw[hv hk3],h2,h3⟩)
   clear hk hok;go_enter func73,ntmps73;go_upto_region 1 with fail;refine tT "desk.go:82" 100 (cC n) rfl rfl rfl rfl hg hc3 HN (λwx=>∃w1,Below w.heap.size w w1/\cN w1 B x d.L (cO d.L d.s (cC n).toNat) wx/\cU w1 wx) (hI λw1 hb=>(HX.out w1 hb).mono λ_ _ h=>⟨h.1,w1,hb,h.2⟩) oa ?_;rintro⟨tm,df⟩ w' hd hs ⟨w1,h1,h2,h3⟩;obtain rfl:df=[]:=hd;have hu:=tQ tm hs;clear hs HN HX;obtain⟨t0,t1,t2,t3,t4,t5,t6,t7,t8,t9,t10,t11,t12,t13,t14,rfl⟩:=hu;go_wp2;go_ret;exact cv.next HH.out h1 h2 h3 rfl
  ·rw[Bool.eq_false_iff.2 hok];have hE2:fw d false (cO d.L d.s (cC n).toNat) [100,101,108,105,118,101,114]=(d,.err 2):=rfl;rw[hE2];clear hE2;have HX:=hI (λw1 (hb:Below w.heap.size w w1)=>Gn (HH.out.after hb).sys (cC n) za5);clear hok;go_enter func73,ntmps73;go_upto_region 1 with fail;exact lX "desk.go:82" 100 (cC n) rfl rfl rfl rfl hg hc3 HN HX HS oa (λa w' hd hb=>⟨hd,cv.same HH.out hb rfl⟩)
theorem Wd(h:dV w B g x vr d)(hf:bL T d.s)(_hT:T<=9900000000)(hw:Words w A l)(c:Nat)(hs:Std w):Calls prog 76 #[pT g 0,.slice A l.length c] w (cv w B g x (bB .lose d l)):=by
 have hc3:=h.c3;have hg:=h.has.lt;have HH:=hI h;have HW:=hI hw;have HS:=hI hs;have HF:=hI hf;clear h hw hs hf;have oa:Hid (∀args w,(callFunc 102 args).run prog w=.ok (.enter 102 args) w):=hI (enters_of func102 kR rfl);cases hr:numsOf l 1 with
 |none=>have HE:Hid (bB .lose d l=(d,.err 3)):=hI zaE;rw[HE.out];have HN:=hI (λw1 (hb:Below w.heap.size w w1)=>fF (fM HW hb) c 1 dC dC (fL HS hb) hr);clear hr HE;go_enter func76,ntmps76;go_upto_region 1 with fail;exact nw "desk.go:87" 102 rfl rfl rfl rfl hg hc3 HN (λa w' hd hb=>⟨hd,cv.same HH.out hb rfl⟩)
 |some n=>
  have HE:Hid (bB .lose d l=fw d (kj d (cC n)) (iU d.s (cC n).toNat) [108,111,115,101]):=hI zaE;rw[HE.out];have HN:=hI (λw1 (hb:Below w.heap.size w w1)=>oT (fM HW hb) c (fL HS hb) hr);clear hr HE;by_cases hok:(kj d (cC n))=true
  ·rw[hok];have hE2:fw d true (iU d.s (cC n).toNat) [108,111,115,101]=({d with s:=iU d.s (cC n).toNat},.txt [108,111,115,101]):=rfl;rw[hE2];clear hE2;(obtain⟨k,hk,hk3⟩:∃k:Nat,cC n=k/\k<d.s.way.length:=zaQ);have HX:=hI (λw1 (hb:Below w.heap.size w w1)=>show Calls prog 102 #[pT x.g 0,I (cC n)] w1 (λe w'=>e=.returned .nilIface/\cN w1 B x d.L (iU d.s (cC n).toNat) w'/\cU w1 w')from by
    rw[hk,cg];refine(Tb (cN.start (HH.out.after hb).sys (HH.out.after hb).hB) HF.out k (.inl hk3)).mono ?_;rintro e w' ⟨⟨v,rfl,hv⟩,h2,h3⟩;exact⟨by rw[hv hk3],h2,h3⟩)
   clear hk hok;go_enter func76,ntmps76;go_upto_region 1 with fail;refine tT "desk.go:87" 102 (cC n) rfl rfl rfl rfl hg hc3 HN (λwx=>∃w1,Below w.heap.size w w1/\cN w1 B x d.L (iU d.s (cC n).toNat) wx/\cU w1 wx) (hI λw1 hb=>(HX.out w1 hb).mono λ_ _ h=>⟨h.1,w1,hb,h.2⟩) oa ?_;rintro⟨tm,df⟩ w' hd hs ⟨w1,h1,h2,h3⟩;obtain rfl:df=[]:=hd;have hu:=tQ tm hs;clear hs HN HX;obtain⟨t0,t1,t2,t3,t4,t5,t6,t7,t8,t9,t10,t11,t12,t13,t14,rfl⟩:=hu;go_wp2;go_ret;exact cv.next HH.out h1 h2 h3 rfl
  ·rw[Bool.eq_false_iff.2 hok];have hE2:fw d false (iU d.s (cC n).toNat) [108,111,115,101]=(d,.err 2):=rfl;rw[hE2];clear hE2;have HX:=hI (λw1 (hb:Below w.heap.size w w1)=>PD (HH.out.after hb).sys (cC n) za5);clear hok;go_enter func76,ntmps76;go_upto_region 1 with fail;exact lX "desk.go:87" 102 (cC n) rfl rfl rfl rfl hg hc3 HN HX HS oa (λa w' hd hb=>⟨hd,cv.same HH.out hb rfl⟩)
theorem TU(h:dV w B g x vr d)(hf:bL T d.s)(hT:T<=9900000000)(hw:Words w A l)(c:Nat)(hs:Std w):Calls prog 84 #[pT g 0,.slice A l.length c] w (cv w B g x (bB .twice d l)):=by
 have hc3:=h.c3;have hg:=h.has.lt;have HH:=hI h;have HW:=hI hw;have HS:=hI hs;have HF:=hI hf;clear h hw hs hf;have oa:Hid (∀args w,(callFunc 115 args).run prog w=.ok (.enter 115 args) w):=hI (enters_of func115 kR rfl);cases hr:numsOf l 1 with
 |none=>have HE:Hid (bB .twice d l=(d,.err 3)):=hI zaE;rw[HE.out];have HN:=hI (λw1 (hb:Below w.heap.size w w1)=>fF (fM HW hb) c 1 dC dC (fL HS hb) hr);clear hr HE;go_enter func84,ntmps84;go_upto_region 1 with fail;exact nw "desk.go:92" 115 rfl rfl rfl rfl hg hc3 HN (λa w' hd hb=>⟨hd,cv.same HH.out hb rfl⟩)
 |some n=>
  have HE:Hid (bB .twice d l=fw d (kj d (cC n)) (eI d.s (cC n).toNat) [116,119,105,99,101]):=hI zaE;rw[HE.out];have HN:=hI (λw1 (hb:Below w.heap.size w w1)=>oT (fM HW hb) c (fL HS hb) hr);clear hr HE;by_cases hok:(kj d (cC n))=true
  ·rw[hok];have hE2:fw d true (eI d.s (cC n).toNat) [116,119,105,99,101]=({d with s:=eI d.s (cC n).toNat},.txt [116,119,105,99,101]):=rfl;rw[hE2];clear hE2;(obtain⟨k,hk,hk3⟩:∃k:Nat,cC n=k/\k<d.s.way.length:=zaQ);have HX:=hI (λw1 (hb:Below w.heap.size w w1)=>show Calls prog 115 #[pT x.g 0,I (cC n)] w1 (λe w'=>e=.returned .nilIface/\cN w1 B x d.L (eI d.s (cC n).toNat) w'/\cU w1 w')from by
    rw[hk,cg];refine(Pw (cN.start (HH.out.after hb).sys (HH.out.after hb).hB) HF.out oM k (.inl hk3)).mono ?_;rintro e w' ⟨⟨v,rfl,hv⟩,h2,h3⟩;exact⟨by rw[hv hk3],h2,h3⟩)
   clear hk hok;go_enter func84,ntmps84;go_upto_region 1 with fail;refine tT "desk.go:92" 115 (cC n) rfl rfl rfl rfl hg hc3 HN (λwx=>∃w1,Below w.heap.size w w1/\cN w1 B x d.L (eI d.s (cC n).toNat) wx/\cU w1 wx) (hI λw1 hb=>(HX.out w1 hb).mono λ_ _ h=>⟨h.1,w1,hb,h.2⟩) oa ?_;rintro⟨tm,df⟩ w' hd hs ⟨w1,h1,h2,h3⟩;obtain rfl:df=[]:=hd;have hu:=tQ tm hs;clear hs HN HX;obtain⟨t0,t1,t2,t3,t4,t5,t6,t7,t8,t9,t10,t11,t12,t13,t14,rfl⟩:=hu;go_wp2;go_ret;exact cv.next HH.out h1 h2 h3 rfl
  ·rw[Bool.eq_false_iff.2 hok];have hE2:fw d false (eI d.s (cC n).toNat) [116,119,105,99,101]=(d,.err 2):=rfl;rw[hE2];clear hE2;have HX:=hI (λw1 (hb:Below w.heap.size w w1)=>Mv (HH.out.after hb).sys (cC n) za5);clear hok;go_enter func84,ntmps84;go_upto_region 1 with fail;exact lX "desk.go:92" 115 (cC n) rfl rfl rfl rfl hg hc3 HN HX HS oa (λa w' hd hb=>⟨hd,cv.same HH.out hb rfl⟩)
theorem We(h:dV w B g x vr d)(hf:bL T d.s)(hT:T<=9900000000)(hw:Words w A l)(c:Nat)(hs:Std w):Calls prog 82 #[pT g 0,.slice A l.length c] w (cv w B g x (bB .tick d l)):=by
 have hc3:=h.c3;have hg:=h.has.lt;have HH:=hI h;have HW:=hI hw;have HS:=hI hs;have HF:=hI hf;clear h hw hs hf;have oa:Hid (∀args w,(callFunc 112 args).run prog w=.ok (.enter 112 args) w):=hI (enters_of func112 kR rfl);cases hr:numsOf l 1 with
 |none=>have HE:Hid (bB .tick d l=(d,.err 3)):=hI zaE;rw[HE.out];have HN:=hI (λw1 (hb:Below w.heap.size w w1)=>fF (fM HW hb) c 1 dC dC (fL HS hb) hr);clear hr HE;go_enter func82,ntmps82;go_upto_region 1 with fail;exact nw "desk.go:72" 112 rfl rfl rfl rfl hg hc3 HN (λa w' hd hb=>⟨hd,cv.same HH.out hb rfl⟩)
 |some n=>
  have HE:Hid (bB .tick d l=fw d (eP (cC n)||decide (cC n=3)) (iT d.L d.s (cC n).toNat) [116,105,99,107]):=hI zaE;rw[HE.out];have HN:=hI (λw1 (hb:Below w.heap.size w w1)=>oT (fM HW hb) c (fL HS hb) hr);clear hr HE;by_cases hok:(eP (cC n)||decide (cC n=3))=true
  ·rw[hok];have hE2:fw d true (iT d.L d.s (cC n).toNat) [116,105,99,107]=({d with s:=iT d.L d.s (cC n).toNat},.txt [116,105,99,107]):=rfl;rw[hE2];clear hE2;have hk:cC n=3\/∃k:Nat,cC n=k/\k<3:=by unfold eP at hok;simp only[cw,aV,decide_eq_true_eq]at hok;rcases hok with h|h;exact .inr ⟨(cC n).toNat,oM,oM⟩;exact .inl h
   have HX:=hI (λw1 (hb:Below w.heap.size w w1)=>show Calls prog 112 #[pT x.g 0,I (cC n)] w1 (λe w'=>e=.returned .nilIface/\cN w1 B x d.L (iT d.L d.s (cC n).toNat) w'/\cU w1 w')from by
    rcases hk with hk|⟨k,hk,hk3⟩;rw[hk];refine(Ew (cN.start (HH.out.after hb).sys (HH.out.after hb).hB) HF.out.vo).mono ?_;rintro e w' ⟨⟨v,rfl,rfl⟩,h2,h3⟩;exact⟨rfl,h2,h3⟩
    ·rw[hk,cg];have e:iT d.L d.s k=gA d.L d.s k:=if_neg oM;rw[e];refine(JE (cN.start (HH.out.after hb).sys (HH.out.after hb).hB) HF.out HH.out.ok oM k hk3).mono ?_;rintro e w' ⟨⟨v,rfl,rfl⟩,h2,h3⟩;exact⟨rfl,h2,h3⟩)
   clear hk hok;go_enter func82,ntmps82;go_upto_region 1 with fail;refine tT "desk.go:72" 112 (cC n) rfl rfl rfl rfl hg hc3 HN (λwx=>∃w1,Below w.heap.size w w1/\cN w1 B x d.L (iT d.L d.s (cC n).toNat) wx/\cU w1 wx) (hI λw1 hb=>(HX.out w1 hb).mono λ_ _ h=>⟨h.1,w1,hb,h.2⟩) oa ?_;rintro⟨tm,df⟩ w' hd hs ⟨w1,h1,h2,h3⟩;obtain rfl:df=[]:=hd;have hu:=tQ tm hs;clear hs HN HX;obtain⟨t0,t1,t2,t3,t4,t5,t6,t7,t8,t9,t10,t11,t12,t13,t14,rfl⟩:=hu;go_wp2;go_ret;exact cv.next HH.out h1 h2 h3 rfl
  ·rw[Bool.eq_false_iff.2 hok];have hE2:fw d false (iT d.L d.s (cC n).toNat) [116,105,99,107]=(d,.err 2):=rfl;rw[hE2];clear hE2;(have hn:¬(0<=cC n/\cC n<3)/\¬cC n=3:=by unfold eP at hok;simp only[cw,aV,decide_eq_true_eq]at hok;exact⟨λh=>hok (.inl h),λh=>hok (.inr h)⟩);have HX:=hI (λw1 (hb:Below w.heap.size w w1)=>PC x.g (cC n) hn.1 hn.2 w1);clear hok hn;go_enter func82,ntmps82;go_upto_region 1 with fail;exact lX "desk.go:72" 112 (cC n) rfl rfl rfl rfl hg hc3 HN HX HS oa (λa w' hd hb=>⟨hd,cv.same HH.out hb rfl⟩)
end
theorem join_le(M:Nat)(sep:List UInt8):∀(l:List (List UInt8)),(∀x∈l,x.length<=M)->(Lib.join l sep).length<=(M+sep.length)*l.length
 |[],_=>by simp[Lib.join]
 |[a],h=>by have:=h a sM;simp[Lib.join];omega
 |a::b::l,h=>by
  have h1:=h a sM;have ih:=join_le M sep (b::l) (λx hx=>h x (List.mem_cons_of_mem _ hx));have e:Lib.join (a::b::l) sep=a++sep++Lib.join (b::l) sep:=by simp[Lib.join,List.intercalate,List.intersperse]
  rw[e,bm,bm,bN,Nat.mul_add,Nat.mul_one];omega
theorem JX:(prog.info? 9).map (λi=>(i.zero,i.size,i.bytes))=some (some (.string ⟨#[]⟩),1,16):=kR
def lY(l:List Int):List ay:=l.map λx=>⟨(Lib.itoa x).toArray⟩
theorem JY(l:List Int):(lY l).map (·.data.toList)=l.map Lib.itoa:=by simp[lY]
theorem joined{w:aa}{base:Nat}{v:ae}{xs:List ay}(sep:ay)(M:Nat)(ho:w.ownsRow base 9 1 v xs.length (strs xs))(hx:∀x∈xs,x.data.toList.length<=M)(hM:M<=100000)(hn:xs.length<=100000)(hs:sep.data.toList.length<=10):
 Calls prog 114 #[v,.string sep] w λe w'=>e=.returned (.string ⟨(Lib.join (xs.map (·.data.toList)) sep.data.toList).toArray⟩)/\Below w.heap.size w w':=by
 rcases Nat.eq_zero_or_pos xs.length with h0|h0
 ·have hv:∃a c,v=.slice a 0 c:=by obtain⟨A,c,rfl,_⟩:=dQ ho;exact⟨A,c,by rw[h0]⟩
  obtain⟨a,c,rfl⟩:=hv;obtain rfl:xs=[]:=cM h0;refine(Tryz.strings_Join_none a c sep w).mono ?_;rintro e w' ⟨he,rfl⟩;exact⟨he,Below.refl _ _⟩
 ·obtain⟨b,c,cs,rfl,hc,hh,hcs⟩:=jz ho h0;refine Tryz.strings_Join b 0 c xs sep w (λj x hj=>?_) hh.lt oM hc ?_;rw[cG,hh.cell];exact hcs j _ (by simp[hj]);refine aS (join_le M sep.data.toList _ (λx hx'=>?_)) ?_;obtain⟨y,hy,rfl⟩:=List.mem_map.1 hx';exact hx y hy;rw[List.length_map];exact aS (Nat.mul_le_mul (show M+sep.data.toList.length<=100010 by omega) hn) dC
theorem sF(A:Option Addr)(c:Nat)(xs:List Int)(hn:xs.length<=1000)(hx:∀x∈xs,eu x)(w:aa)(hr:Reads w w.heap.size A (ints xs))(hs:Hid (Std w)):
 Calls prog 98 #[.slice A xs.length c] w λe w'=>e=.returned (.string ⟨(eF xs).toArray⟩)/\Below w.heap.size w w':=by
 obtain⟨i0,hi0,hz0,hz1,hz2⟩:=info_parts JX;have HR:=hI hr;have HX:=hI hx;clear hr hx;go_enter func98,ntmps98;go_wp2_with fail;go_loopw [3,8] (λv iv wr=>∃i:Nat,i<=xs.length/\iv=I i/\Hid (wr.ownsRow w.heap.size 9 1 v i (strs (lY (xs.take i))))/\Hid (Below w.heap.size w wr)) (λ_ iv _=>xs.length-(intOf iv).toNat)
 case atStart=>exact⟨0,bT _,rfl,hI (by simpa[lY]using World.ownsRow_nil _ _ _ _),hI (Below.refl _ _)⟩
 case round=>
  obtain⟨i,hi,rfl,HO,HW⟩:=hrel;by_cases hlt:i<xs.length
  ·obtain⟨x,hx⟩:=bY xs i hlt;obtain⟨b,o,rfl,hbb,hcell⟩:=(HR.out.below HW.out).at_ hx;have hii:(i:Int)<(xs.length:Int):=oM;have h64:=HX.out x (aR hx);have pM:=hI hlt;have HS:=hI (hs.out.below hs.out.size HW.out);have HI:=hI (sA x h64 wr HS);have HE:Hid (strs (lY (xs.take (i+1)))=strs (lY (xs.take i))++[.string ⟨(Lib.itoa x).toArray⟩]):=hI (by
    rw[List.take_add_one,hx];simp[lY])
   clear hx h64;generalize (⟨(Lib.itoa x).toArray⟩:ay)=sv at*;go_upto_region 5 with fail;go_wp2_with (first
    |(go_at_call 46;refine HI.out.mono ?_;rintro e w2 ⟨rfl,hb2⟩;have HB2:=hI hb2;have gq:=hI (eD HO.out hb2);have HW2:Hid (Below w.heap.size w w2):=hI (HW.out.trans (hb2.mono HW.out.size));clear hb2)
    |(at_builtin;refine wpList_append_own _ rfl _ _ 22 rfl w.heap.size 9 i0 (.string ⟨#[]⟩) 1 16 underlying22 hi0 hz0 hz1 hz2 rfl dC _ _ _ rfl (World.ownsRow.alloc gq.out _) ⟨w2.heap.size,0,none⟩ 1 1 [.string sv] rfl rfl (cell_one_new _ _ _) (λu hu=>by rw[bW.1 hu];rfl) ?c3 ?c4 ?c5 ?_))
   case c3=>unfold maxLen;omega
   case c4=>omega
   case c5=>have:=HW2.out.size;simp;omega
   intro v' w' hown' hgrow _;have HW3:Hid (Below w.heap.size w w'):=hI ((HW2.out.alloc HW2.out.size _).grown hgrow za6 (λq hq=>(gq.out.lt q hq).1));have lL:Hid (w'.ownsRow w.heap.size 9 1 v' (i+1) (strs (lY (xs.take (i+1))))):=hI (by
    rw[HE.out];exact hown')
   clear hown' hgrow HO gq HE;go_wp2_with fail;go_roundw
   case rel=>exact⟨i+1,pM.out,by go_num,lL,HW3⟩
   case measure=>have:=pM.out;simp[intOf];omega
  ·(have hil:i=xs.length:=by omega);subst hil;(have hlen:(lY xs).length=xs.length:=by simp[lY]);have gq:Hid (wr.ownsRow w.heap.size 9 1 _ (lY xs).length (strs (lY xs))):=hI (by
    have:=HO.out;rw[bZ (aj _)]at this;rw[hlen];exact this)
   have HJ:=hI (joined ⟨#[32]⟩ 21 gq.out (λy hy=>by
    obtain⟨z,hz,rfl⟩:=List.mem_map.1 hy;exact Lib.itoa_length_le z (HX.out z hz).1 (HX.out z hz).2) dC (by rw[hlen];omega) dC)
   (have e2:Lib.join ((lY xs).map (·.data.toList)) (⟨#[32]⟩:ay).data.toList=eF xs:=by rw[JY];rfl);rw[e2]at HJ;clear e2 HO;(go_wp2_with (go_at_call 114;refine HJ.out.mono ?_;rintro e w2 ⟨rfl,hb2⟩));go_ret;exact⟨rfl,HW.out.trans (hb2.mono HW.out.size)⟩
section
variable {w:aa}{B g:Nat}{x:fV}{vr:ae}{d:Dk}{T:Nat}{A:Option Addr}{l:List ay}
theorem oc{w:aa}(hw:Hid (Words w A l))(c:Nat)(hs:Hid (Std w)){n:List Int}(hr:numsOf l 0=some n):
 Calls prog 39 #[.slice A l.length c,I 0] w λe w'=>(∃v,e=.returned v)/\Below w.heap.size w w':=by
 refine(oQ A c l 0 dC dC hw.out.many hw.out.size w hw.out.reads hs _ (hI hr)).mono ?_;rintro e w' ⟨⟨v,rfl,ho⟩,hb⟩;exact⟨⟨v,rfl⟩,hb⟩
theorem Wh(h:dV w B g x vr d)(hw:Words w A l)(c:Nat)(hs:Std w):Calls prog 74 #[pT g 0,.slice A l.length c] w (cv w B g x (bB .EC d l)):=by
 have HH:=hI h;have HW:=hI hw;have HS:=hI hs;clear h hw hs;cases hr:numsOf l 0 with
 |none=>
  have HE:Hid (bB .EC d l=(d,.err 3)):=hI zaE;rw[HE.out];have HN:=hI (fF HW c 0 dC dC HS hr);clear hr HE;go_enter func74,ntmps74;go_wp2_with (go_at_call 39;refine HN.out.mono ?_;rintro e w1 ⟨rfl,hb⟩)
  exact za4
 |some n=>
  have HE:Hid (bB .EC d l=(d,.txt bB.TM)):=hI zaE;rw[HE.out];have HN:=hI (oc HW c HS hr);clear hr HE;go_enter func74,ntmps74;go_wp2_with (go_at_call 39;refine HN.out.mono ?_;rintro e w1 ⟨⟨v,rfl⟩,hb⟩)
  go_ret;exact cv.same HH.out hb rfl
theorem TW(h:dV w B g x vr d)(hw:Words w A l)(c:Nat)(hs:Std w):Calls prog 75 #[pT g 0,.slice A l.length c] w (cv w B g x (bB .su d l)):=by
 have HH:=hI h;have HW:=hI hw;have HS:=hI hs;clear h hw hs;cases hr:numsOf l 0 with
 |none=>
  have HE:Hid (bB .su d l=(d,.err 3)):=hI zaE;rw[HE.out];have HN:=hI (fF HW c 0 dC dC HS hr);clear hr HE;go_enter func75,ntmps75;go_wp2_with (go_at_call 39;refine HN.out.mono ?_;rintro e w1 ⟨rfl,hb⟩)
  exact za4
 |some n=>
  have HE:Hid (bB .su d l=({d with s:=pG d.s},.txt [108,97,116,99,104])):=hI zaE;rw[HE.out];have HN:=hI (oc HW c HS hr);clear hr HE;go_enter func75,ntmps75;go_upto_region 2 with(go_at_call 39;refine HN.out.mono ?_;rintro e w1 ⟨⟨v,rfl⟩,hb⟩;have HB:=hI hb;clear hb)
  have H1:=hI (HH.out.after HB.out);have c3:=H1.out.c3;have hg:=H1.out.has.lt;go_wp2_with (go_at_call 101;refine(Pk (cN.start H1.out.sys H1.out.hB)).mono ?_;rintro e w2 ⟨⟨v,rfl,_⟩,h2,h3⟩;have H2:=hI (And.intro h2 h3);clear h2 h3)
  go_ret;exact cv.next HH.out HB.out H2.out.1 H2.out.2 rfl
theorem GA(h:dV w B g x vr d)(hw:Words w A l)(c:Nat)(hs:Std w):Calls prog 71 #[pT g 0,.slice A l.length c] w (cv w B g x (bB .conflicts d l)):=by
 have HH:=hI h;have HW:=hI hw;have HS:=hI hs;clear h hw hs;cases hr:numsOf l 0 with
 |none=>
  have HE:Hid (bB .conflicts d l=(d,.err 3)):=hI zaE;rw[HE.out];have HN:=hI (fF HW c 0 dC dC HS hr);clear hr HE;go_enter func71,ntmps71;go_wp2_with (go_at_call 39;refine HN.out.mono ?_;rintro e w1 ⟨rfl,hb⟩)
  exact za4
 |some n=>
  have HE:Hid (bB .conflicts d l=(d,.txt (eF (zs (dp d.L.routes))))):=hI zaE;rw[HE.out];have HN:=hI (oc HW c HS hr);clear hr HE;go_enter func71,ntmps71;go_upto_region 2 with(go_at_call 39;refine HN.out.mono ?_;rintro e w1 ⟨⟨v,rfl⟩,hb⟩;have HB:=hI hb;clear hb)
  have H1:=hI (HH.out.after HB.out);have hL:=H1.out.ok;obtain⟨Ar,cr,ub,hcr,hrd⟩:=H1.out.routes.reads;have c0:=H1.out.has.aJ 0 _ rfl;have c1:w1.cell? ⟨g,1,none⟩=some (.slice Ar d.L.routes.length cr):=by rw[<-ub];exact H1.out.has.aJ 1 vr rfl
  have c2:=H1.out.has.aJ 2 _ rfl;have hg:=H1.out.has.lt;have HC:=hI (pg d.L.secs d.L.delay Ar d.L.routes.length cr d.L.routes w1 (hI rfl) hL.many1 hL.ja hcr hrd (hI hL.small) (hI (rM hL)));have Wi:Hid (∀y∈zs (dp d.L.routes),eu y):=hI (λy hy=>by
   obtain⟨z,hz,rfl⟩:=List.mem_map.1 hy;unfold dp at hz;obtain⟨q,hq,rfl⟩:=List.mem_map.1 hz;have:conf d.L.routes q<256:=iY _ _ _ hL.ja;exact eu.nat oM)
  have C3:Hid ((zs (dp d.L.routes)).length=d.L.routes.length):=hI (by rw[dw,jT]);have HM2:=hI hL.ja;clear ub hrd hL;go_upto_region 3 with(go_at_call 97;refine HC.out.mono ?_;rintro e w2 ⟨⟨A2,n2,rfl,ho⟩,hb2⟩;have HO:=hI ho;have HB2:=hI hb2;clear ho hb2)
  have HS2:=hI ((HS.out.after HB.out).after HB2.out);obtain⟨A3,c3,OJ,hc3,-,Xh⟩:=dQ HO.out;injection OJ with e1 e2 e3;subst e1 e3;have HJ:=hI (sF A2 n2 (zs (dp d.L.routes)) (by rw[C3.out];have:=HM2.out;omega) Wi.out w2 Xh HS2);rw[C3.out]at HJ;clear Xh c0 c1 c2 HC HO;go_wp2_with (first
   |(go_at_call 41;refine(nv w2).mono ?_;rintro e w3 ⟨rfl,rfl⟩)
   |(go_at_call 98;refine HJ.out.mono ?_;rintro e w4 ⟨rfl,hb4⟩))
  exact zaV
theorem Wj(h:dV w B g x vr d)(hw:Words w A l)(c:Nat)(hs:Std w):Calls prog 78 #[pT g 0,.slice A l.length c] w (cv w B g x (bB .most d l)):=by
 have HH:=hI h;have HW:=hI hw;have HS:=hI hs;clear h hw hs;cases hr:numsOf l 0 with
 |none=>
  have HE:Hid (bB .most d l=(d,.err 3)):=hI zaE;rw[HE.out];have HN:=hI (fF HW c 0 dC dC HS hr);clear hr HE;go_enter func78,ntmps78;go_wp2_with (go_at_call 39;refine HN.out.mono ?_;rintro e w1 ⟨rfl,hb⟩)
  exact za4
 |some n=>
  have HE:Hid (bB .most d l=(d,.txt (Lib.itoa (je (dp d.L.routes) (2^d.L.routes.length):Nat)))):=hI zaE;rw[HE.out];have HN:=hI (oc HW c HS hr);clear hr HE;go_enter func78,ntmps78;go_upto_region 2 with(go_at_call 39;refine HN.out.mono ?_;rintro e w1 ⟨⟨v,rfl⟩,hb⟩;have HB:=hI hb;clear hb)
  have H1:=hI (HH.out.after HB.out);have eE:=hI (HS.out.after HB.out);have hL:=H1.out.ok;obtain⟨Ar,cr,ub,hcr,hrd⟩:=H1.out.routes.reads;have c0:=H1.out.has.aJ 0 _ rfl;have c1:w1.cell? ⟨g,1,none⟩=some (.slice Ar d.L.routes.length cr):=by rw[<-ub];exact H1.out.has.aJ 1 vr rfl
  have c2:=H1.out.has.aJ 2 _ rfl;have hg:=H1.out.has.lt;have HC:=hI (TJ d.L.secs d.L.delay Ar d.L.routes.length cr d.L.routes w1 (hI rfl) hL.many1 hL.ja hcr hrd (hI hL.small) (hI (rM hL)) (hI eE.out.tab) (aT dC eE.out.size));have hbt:=vq (dp d.L.routes) (2^d.L.routes.length);clear ub hrd hL;generalize je (dp d.L.routes) (2^d.L.routes.length)=bt at*;go_upto_region 3 with(go_at_call 105;refine HC.out.mono ?_;rintro e w2 ⟨rfl,hb2⟩;have HB2:=hI hb2;clear hb2)
  have HS2:=hI (eE.out.after HB2.out);have HJ:=hI (sA (bt:Int) (eu.nat oM) w2 HS2);clear c0 c1 c2 HC;go_wp2_with (first
   |(go_at_call 41;refine(nv w2).mono ?_;rintro e w3 ⟨rfl,rfl⟩)
   |(go_at_call 46;refine HJ.out.mono ?_;rintro e w4 ⟨rfl,hb4⟩))
  exact zaV
end
end Go.Proofs.YtdhekhlmdefcnaaGreatDoor
namespace Go.Proofs.YtdhekhlmdefcnaaGreatDoor
section
variable {P:aF}{ops:Array Oper}{Q:Exit->Act->aa->Prop}
abbrev jW:=Nat->Nat
def PQ(own:List Nat)(Γ ei:jW):Prop:=∀k,k∉own->ei k=Γ k
def jW.set(Γ:jW)(k v:Nat):jW:=λj=>if j=k then v else Γ j
theorem ll(Γ:jW):PQ [] Γ Γ:=λ_ _=>rfl
theorem jB(Γ:jW)(k v:Nat):PQ [k] Γ (Γ.set k v):=λj hj=>if_neg (by simpa using hj)
theorem aaY(Γ:jW)(k k' v v':Nat):PQ [k,k'] Γ ((Γ.set k v).set k' v'):=λj hj=>by simp at hj;exact(if_neg hj.2).trans (if_neg hj.1)
def MD(P:aF)(ops:Array Oper)(Q:Exit->Act->aa->Prop)(own:List Nat)(Γ:jW)(V:jW->Nat->ae)(S:List Nat)(a0:Act)(i:Nat)(o:Oper)(M:aa->Prop)(N:jW->aa->Prop):Prop:=
 ∀(li:Array Bool)(a:Act)(w:aa),Here ops (V Γ) S a0 li a->li.getD i false=false->(∀e∈o.after,Region.binds .any e=true->li.getD e.on false=true)->M w->
  ∀K:Act->aa->Prop,(∀ei w',PQ own Γ ei->N ei w'->K (a.put o.dst (V ei i)) w')->if Region.wanted o (yielded ops a.tmps)=true then Oper.wp P o a w K Q else K (a.put o.dst undef) w
theorem dN{own:List Nat}{Γ:jW}{V:jW->Nat->ae}{S:List Nat}{a0:Act}{i:Nat}{o:Oper}{M:aa->Prop}{N:jW->aa->Prop}(hg:o.guard=none)
 (h:∀(li:Array Bool)(a:Act)(w:aa),Here ops (V Γ) S a0 li a->li.getD i false=false->(∀e∈o.after,Region.binds .any e=true->li.getD e.on false=true)->M w->∀K:Act->aa->Prop,(∀ei w',PQ own Γ ei->N ei w'->K (a.put o.dst (V ei i)) w')->Oper.wp P o a w K Q):
 MD P ops Q own Γ V S a0 i o M N:=by
 exact za1
def Zb(P:aF)(ops:Array Oper)(Q:Exit->Act->aa->Prop)(V:jW->Nat->ae)(S:List Nat)(stores:List Nat)(own:Nat->List Nat)(ia:Nat)(Ms:Nat->jW->Bool->aa->Prop)(b0:Act)(i:Nat)(o:Oper):Prop:=
 (i∉stores/\i≠ia/\∀(Γ:jW)(M:aa->Prop),StepA P ops Q (V Γ) S b0 i o M M)\/
 (i=ia/\i∉stores/\∃t s,stores[t]?=some s/\needs ops i ops.size s=true/\∀Γ j,j<=t->MD P ops Q (own i) Γ V S b0 i o (Ms j Γ false) (λei=>Ms j ei true))\/
 (i≠ia/\∃t,stores[t]?=some i/\∀Γ b,(needs ops ia ops.size i=true->b=true)->MD P ops Q (own i) Γ V S b0 i o (Ms t Γ b) (λei=>Ms (t+1) ei b))\/
 (i∉stores/\i≠ia/\∃t s,stores[t]?=some s/\needs ops i ops.size s=true/\∀Γ b j,j<=t->StepA P ops Q (V Γ) S b0 i o (Ms j Γ b) (Ms j Γ b))
def Zc(ops:Array Oper)(own uses:Nat->List Nat):Bool:=
 (List.range ops.size).all λi=>(List.range ops.size).all λq=>decide (q=i)||needs ops i ops.size q||(uses q).all λk=>decide (k∉own i)
theorem eK{id:Nat}{w:aa}{a0:Act}(hm:P.follows .mixedOrders=true)(F:Act->Prop)(hF:F a0)(n:Nat)(hn:a0.tmps.size=n)(Γ0:jW)(V:jW->Nat->ae)(stores:List Nat)(hc:tP ops stores=true)(own uses:Nat->List Nat)(ia:Nat)
 (hown:Zc ops own uses=true)(hV:∀Γ ei q,q<ops.size->(∀k∈uses q,Γ k=ei k)->V Γ q=V ei q)(Ms:Nat->jW->Bool->aa->Prop)(S:List Nat)
 (hd:jJ ops S n=true)(hb:(List.range ops.size).all (λi=>((ops[i]?).map λo=>o.after.all λe=>!Region.binds .any e||decide (e.on<i)).getD true)=true)
 (h0:Ms 0 Γ0 false {w with drawn:=w.drawn+1})
 (hstep:∀b0,F b0->∀i o,ops[i]?=some o->Zb P ops Q V S stores own ia Ms b0 i o)
 (hend:∀Γ b a w',gM S a0 a->(∀i o,ops[i]?=some o->∀d,o.dst=some d->a.tmps.getD d undef=V Γ i)->Ms stores.length Γ b w'->Q .normal a w'):(Code.region id ops true).wp P Q a0 w:=by
 unfold tP at hc;simp only[aV,decide_eq_true_eq]at hc;obtain⟨⟨hch,hnd⟩,hsz⟩:=hc;have fP:∀j,(Array.replicate ops.size false).getD j false=false:=λj=>by rw[aU,Array.getElem?_replicate];split<;>rfl
 have hd':jJ ops S a0.tmps.size=true:=by rw[hn];exact hd
 refine oH hm (λli a w'=>∃Γ,Here ops (V Γ) S a0 li a/\L6 stores (λj=>Ms j Γ (li.getD ia false)) li w') ⟨Γ0,⟨sM,gM.refl _ _,(λj o _ hl=>absurd hl zbb),(λj o _ hl=>absurd hl zbb),λ_ _=>rfl⟩,0,bT _,(λt s _=>by rw[fP];simp),by rw[fP];exact h0⟩ ?_ ?_
 ·intro i li a w' hi hJ;obtain⟨Γ,hH,j,hj,hst,hM⟩:=hJ;obtain⟨uT,o,ho,av⟩:=mem_ready.1 hi;have hlt:=(az.1 ho).1;have hs:=hH.size;have hnot:li.getD i false=false:=by rw[aU]at uT⊢;rw[aZ oM]at uT⊢;exact uT
  have hset:(li.setIfInBounds i true).getD i false=true:=by simp[hs,hlt]
  have next:∀ei v,v=V ei i->qo ops (V ei) li a->Here ops (V ei) S a0 (li.setIfInBounds i true) (a.put o.dst v):=by
   rintro ei v rfl hkn;refine⟨by simpa using hs,hH.cA.puts hd' ho _,hkn.put hd' hH.cA.size ho,?_,?_⟩;intro q oq hq hl e he hbe;by_cases e1:i=q;subst e1;rw[ho]at hq;injection hq with hq;subst hq;have h1:=av e he hbe;by_cases e2:i=e.on;rw[<-e2,hnot]at h1;cases h1;exact za7;rw[getD_set_ne false e1]at hl;have h1:=hH.closed q oq hq hl e he hbe;by_cases e2:i=e.on;rw[<-e2];exact hset;exact za7
   ·intro d rS;have h1:o.dst≠some d:=λe=>by have:=rS i o ho e;rw[hset]at this;cases this
    have h2:(a.put o.dst (V ei i)).tmps[d]?=a.tmps[d]?:=by
     cases hod:o.dst with
     |none=>rfl
     |some d0=>have hne:d0≠d:=λe=>h1 (by rw[hod,e]);show(a.tmps.setIfInBounds d0 (V ei i))[d]?=_;rw[bh hne]
    rw[h2];refine hH.F3 d (λq oq hq F4=>?_);have:=rS q oq hq F4;by_cases e1:i=q;subst e1;exact hnot;rw[getD_set_ne false e1]at this;exact this
  have agree:∀Γ ei,PQ (own i) Γ ei->qo ops (V Γ) li a->qo ops (V ei) li a:=λΓ ei hch hkn q oq hq hl d rS=>by have hql:=(az.1 hq).1;rw[hV ei Γ q hql (λk hk=>?_)];exact hkn q oq hq hl d rS;have h1:=bj.1 (bj.1 hown i (bX.2 hlt)) q (bX.2 hql);simp only[cw,decide_eq_true_eq]at h1;rcases h1 with(h1|h1)|h1;rw[h1,hnot]at hl;cases hl;exact zbe;exact hch k (by simpa using bj.1 h1 k hk)
  refine wpOp_step ho (λK' hK'=>?_);rcases hstep a0 hF i o ho with⟨hns,hni,hp⟩|⟨rfl,hns,t,s,ht,L8,hp⟩|⟨hni,t,ht,hp⟩|⟨hns,hni,t,s,ht,L8,hp⟩
  ·refine hp Γ (Ms j Γ (li.getD ia false)) li a w' hH hnot av hM K' (λw'' hM'=>hK' _ _ ⟨Γ,next Γ _ rfl hH.known,j,hj,λt s hts=>?_,zbi⟩);rw[getD_set_ne false (λe=>hns za0)];exact hst t s hts
  ·(have hjt:j<=t:=by rcases cp t j with h|h;exact zaO;exact h);refine hp Γ j hjt li a w' hH hnot av (by rw[hnot]at hM;exact hM) K' (λei w'' hch hM'=>hK' _ _ ⟨ei,next ei _ rfl (agree Γ ei hch hH.known),j,hj,λt s hts=>?_,by rw[hset];exact hM'⟩);rw[getD_set_ne false (λe=>hns za0)];exact hst t s hts
  ·have htl:t<stores.length:=(aX.1 ht).1;(have hjt:j=t:=by have h1:=hst t i ht;rw[hnot]at h1;(have h2:¬t<j:=zbj);rcases Nat.eq_zero_or_pos t with h|h;omega;have h3:=bj.1 hch t (bX.2 htl);simp only[cw,decide_eq_true_eq]at h3;(have h4:needs ops (stores.getD (t-1) 0) ops.size i=true:=by rcases h3 with h3|h3;omega;rw[aD (l:=stores) (i:=t),ht]at h3;exact h3);exact zaN);subst hjt;refine hp Γ _ (λhnd=>qB hH.closed ho av _ hnd) li a w' hH hnot av hM K' (λei w'' hch hM'=>hK' _ _ ⟨ei,next ei _ rfl (agree Γ ei hch hH.known),j+1,oM,λt s hts=>?_,zbi⟩);by_cases e:s=i;exact za2;rw[getD_set_ne false (λe'=>e e'.symm),hst t s hts,decide_eq_decide];(have:t≠j:=λe'=>by exact zaZ);omega
  ·(have hjt:j<=t:=by rcases cp t j with h|h;exact zaO;exact h);refine hp Γ _ j hjt li a w' hH hnot av hM K' (λw'' hM'=>hK' _ _ ⟨Γ,next Γ _ rfl hH.known,j,hj,λt s hts=>?_,zbi⟩);rw[getD_set_ne false (λe=>hns za0)];exact hst t s hts
 ·intro li a w' hJ hr;obtain⟨Γ,hH,j,hj,hst,hM⟩:=hJ;have hall:=oI hr hH.size hb;refine hend Γ (li.getD ia false) a w' hH.cA (λi o ho d hd=>hH.known i o ho (hall i (az.1 ho).1) d hd) ?_;have:j=stores.length:=by rcases Nat.eq_zero_or_pos stores.length with h|h;omega;exact zaM
  subst this;exact hM
end
end Go.Proofs.YtdhekhlmdefcnaaGreatDoor

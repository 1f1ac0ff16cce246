/- Part 8c of the proof. -/
import Derived.Test.YtdhekhlmdefcnaaGreatDoorPart8
set_option maxHeartbeats 16000000
set_option maxRecDepth 1000000
namespace Go.Proofs.YtdhekhlmdefcnaaGreatDoor
theorem Re.Fits.mono{r:Re}{T U:Nat}(h:r.Fits T)(Jr:T<=U):r.Fits U:=
 ⟨h.id,h.mD,h.qs,h.lS,h.mF,h.seen,λk=>aS (h.came k) Jr,aS h.dr Jr,h.cycle,h.ahead,h.state.mono oM,h.told,h.field⟩
theorem BZ(M:Nat):St.zero.Fits M:=⟨dC,rfl,rfl,λx hx=>zgE,λx hx=>zgE⟩
theorem yo{α:Type}(n k:Nat)(x:α):(List.replicate n x).getD k x=x:=by rw[aD,List.getElem?_replicate];split<;>rfl
theorem nu{k:Nat}(hk:k<3):(Re.new k).Fits 0:=
 ⟨hk,rfl,rfl,rfl,rfl,λi=>by show lf (tG.getD i (0,0));unfold tG;rw[yo];exact⟨dC,dC⟩,λi=>by show(List.replicate 3 0).getD i 0<=0;rw[yo];exact aj _,aj _,bT _,bT _,BZ _,
  λi=>by
   have e:(Re.new k).told.getD i iB=iB:=yo 3 i iB;rw[e];exact⟨BZ _,bT _⟩,by show(-9223372036854775808<=(0:Int)/\(0:Int)<9223372036854775808)/\-9223372036854775808<=(0:Int)/\(0:Int)<9223372036854775808;decide⟩
theorem B0{L:Lay}(hL:L.Ok)(x:Int×Int):lf (fit L x):=by refine⟨?_,?_⟩;show iI x.1 L.secs<4096;exact aT (qi _ _) (cn (n:=2) dC hL.uQ);show iI x.2 L.routes.length<4096;exact aT (qi _ _) (cn (n:=2) dC (show L.routes.length<=12 from aS hL.ja dC))
theorem Js(L:Lay)(r:Re):(ea L r).1=gi L r:=by unfold ea;dsimp only;split;rfl;split<;>rfl
theorem uZ{L:Lay}(hL:L.Ok){r:Re}{T:Nat}(h:r.Fits T):(ea L r).1.Fits (T+1):=by rw[Js];unfold gi;refine⟨h.id,by simp[h.mD],sM,by simp[h.lS],h.mF,λk=>?_,λk=>?_,by have:=h.dr;show r.dr+1<=_;omega,h.cycle,h.ahead,h.state.mono oM,h.told,h.field⟩;show lf ((r.seen.set r.id (fit L r.field)).getD k (0,0));rw[eZ _ _ _ _ _ (by rw[h.mD];exact h.id)];split;exact B0 hL _;exact h.seen k;show(r.came.set r.id (r.dr+1)).getD k 0<=T+1;rw[eZ _ _ _ _ _ (by rw[h.lS];exact h.id)];split;have:=h.dr;omega;have:=h.came k;omega
theorem B1{r:Re}{T k:Nat}(h:r.Fits T)(hk:k<=2000000):(goes r k).Fits T:=
 ⟨h.id,rfl,rfl,h.lS,rfl,(nu (k:=0) dC).seen,h.came,bT _,hk,h.ahead,h.state,(nu (k:=0) dC).told,h.field⟩
theorem aby{L:Lay}(hL:L.Ok){r:Re}{T:Nat}(h:r.Fits T){f:List Int}(hm:fC f=true):(cZ L r f).1.Fits (T+8):=by obtain⟨kd,fr,cy,c,d,s,hin⟩:=SB hm;have h8:=h.mono (show T<=T+8 by omega);have ho:other r f=true↔fr<3/\fr≠r.id:=zgy;have hcy:=hin.hcy;by_cases h1:kd=1/\other r f=true/\cy=r.cycle;have h3:=(ho.1 h1.2.1).1;unfold cZ;rw[hin.e0,hin.e1,hin.e2];dsimp only;rw[if_pos ⟨oM,h1.2.1,oM⟩,cg];refine⟨h.id,by simp[h.mD],by simp[h.qs],by simp[h.lS],h.mF,λk=>?_,λk=>?_,h8.dr,h.cycle,h.ahead,h8.state,h.told,h.field⟩;show lf ((r.seen.set fr _).getD k (0,0));rw[eZ _ _ _ _ _ (by rw[h.mD];exact h3)];split;exact B0 hL _;exact h.seen k;show(r.came.set fr r.dr).getD k 0<=T+8;rw[eZ _ _ _ _ _ (by rw[h.lS];exact h3)];split;have:=h.dr;omega;have:=h.came k;omega;by_cases h2:kd=3/\fr=3/\r.cycle<=cy;obtain⟨e1,e2,e3⟩:=h2;subst e1 e2;have hah:=h.ahead;have hm:max r.ahead cy<=2000000:=oM;by_cases he:cy=r.cycle;rw[Jj L hin he];exact B1 (r:={r with ahead:=max r.ahead cy,state:=(step L c d r.state).1}) ⟨h.id,h.mD,h.qs,h.lS,h.mF,h.seen,h8.came,h8.dr,h.cycle,hm,(uS hL h.state).mono oM,h.told,h.field⟩ oM;rw[Jk L hin oM];exact⟨h.id,h.mD,h.qs,h.lS,h.mF,h.seen,h8.came,h8.dr,h.cycle,hm,h8.state,h.told,h.field⟩;by_cases h3:kd=4/\other r f=true;unfold cZ;rw[hin.e0];dsimp only;rw[if_neg oM,if_neg oM,if_pos ⟨oM,h3.2⟩];exact h8;by_cases h4:kd=5/\other r f=true/\r.cycle<cy/\gJ L (jr f)=true;obtain⟨e1,e2,e3,e4⟩:=h4;subst e1;have hx:=ho.1 e2;rw[zm L hin hx.1 hx.2 e3 e4];(have hs:s.Fits 1000:=by have h:=zl hL hin.sn e4;rw[hin.st]at h;exact h);(have ht:∀k,((r.told.set fr (cy,s,true)).getD k iB).2.1.Fits 2000/\((r.told.set fr (cy,s,true)).getD k iB).1<=2000000:=λk=>by rw[eZ _ _ _ _ _ (by rw[h.mF];exact hx.1)];split;exact⟨hs.mono dC,by show cy<=_;omega⟩;exact h.told k);dsimp only;split;exact B1 (r:={r with told:=r.told.set fr (cy,s,true),state:=s}) ⟨h.id,h.mD,h.qs,h.lS,by simp[h.mF],h.seen,h8.came,h8.dr,h.cycle,h.ahead,hs.mono oM,ht,h.field⟩ oM;exact⟨h.id,h.mD,h.qs,h.lS,by simp[h.mF],h.seen,h8.came,h8.dr,h.cycle,h.ahead,h8.state,ht,h.field⟩;rw[BV L hin h1 h2 h3 h4];exact h8
open Go.Proofs.Tryz Go.RowKit
theorem O8(p0 p1 p2:Int):(#[I p0,I p1,I p2,.bool true]:bw).all (·.oneCell')=true:=all_oneCell_toArray (cs:=[I p0,I p1,I p2,.bool true]) (by intro v hv;simp at hv;rcases hv with rfl|rfl|rfl|rfl<;>rfl)
theorem O9:(prog.info? 159).map (·.size)=some 4:=kR
section
variable {w:aa}{B g:Nat}{vt:ae}{v:Vo}
theorem SN(h:fo w B g vt v)(hw:v.Wf)(hB:B<=w.heap.size)(f:List Int)(hf:Wf f):Calls prog 138 #[pT g 0,.agg (aN f)] w λe w'=>
 (∃x,e=.returned (.tuple #[x,.bool (dR v f).2.2])/\pN w' w.heap.size x (dR v f).2.1)/\
 (∃mG,fo w' B g mG (dR v f).1/\(mG.ownBlock=vt.ownBlock\/∃b,w.heap.size<=b/\mG.ownBlock=some b))/\Turned (FV g vt) w w':=by
 obtain⟨k,hk⟩:=bY f 0 zgr;obtain⟨j,hj⟩:=bY f 1 zgr;obtain⟨cy,hcy⟩:=bY f 2 zgr;obtain⟨p0,hp0⟩:=bY f 3 zgr;obtain⟨p1,hp1⟩:=bY f 4 zgr;obtain⟨p2,hp2⟩:=bY f 5 zgr;have HK:Hid (f.getD 0 0=k):=hI (yj hk);have HJ:Hid (f.getD 1 0=j):=hI (yj hj);have HC:Hid (f.getD 2 0=cy):=hI (yj hcy);have HP:Hid (mr f=(p0,p1,p2)):=hI (by unfold mr;rw[yj hp0,yj hp1,yj hp2]);have kb:=Has.new w 214 (aN f);have h1:=h.after ((Below.refl w.heap.size w).alloc (aj _) (.cells (aN f) 214));have ht1:Turned (FV g vt) w (w.alloc (.cells (aN f) 214)):=(Turned.refl (FV g vt) w).alloc _;have HT1:=hI ht1;have H1:=hI h1;have HW:=hI hw;have hgl:=h1.has.lt;have a0:=kb.aJ 0 _ (dO f 0 k hk);have a1:=kb.aJ 1 _ (dO f 1 j hj);have a2:=kb.aJ 2 _ (dO f 2 cy hcy);have a3:=kb.aJ 3 _ (dO f 3 p0 hp0);have a4:=kb.aJ 4 _ (dO f 4 p1 hp1);have a5:=kb.aJ 5 _ (dO f 5 p2 hp2);have X0:=hI (dO f 0 k hk);have X1:=hI (dO f 1 j hj);have X2:=hI (dO f 2 cy hcy);have X3:=hI (dO f 3 p0 hp0);have X4:=hI (dO f 4 p1 hp1);have X5:=hI (dO f 5 p2 hp2);have c13:=h1.has.aJ 13 (I (v.out:Int)) rfl;have aaO:=(hf.2 j (aR hj));have hout:=hw.out;clear hk hj hcy hp0 hp1 hp2 h h1 ht1 hw hf;go_enter func138,ntmps138;go_upto_region 1 with(fail);generalize w.alloc (.cells (aN f) 214)=w1 at*;generalize hG:w.heap.size=g0 at*;have HG:=hI hG;clear hG;have HE:Hid (fS v f=((decide (k=2)||decide (k=4))&&decide (0<=j)&&decide (j<3)&&decide (0<=cy)&&!v.out.testBit j.toNat)):=hI (by unfold fS;rw[HK.out,HJ.out,HC.out]);go_cut [42] (λs42 wx=>s42=.bool (!fS v f)/\Hid (∃q,w1.drewN q=wx))
 case first=>
  by_cases hk2:k=2\/k=4
  ·by_cases hj0:j<0
   ·have HN:Hid (fS v f=false):=hI (by rw[HE.out];simp[show¬0<=j by omega]);rcases hk2 with rfl|rfl;all_goals
     go_quiet (fail);go_wp2_with fail;go_meet
     case rel=>exact⟨zgu,hI ⟨_,rfl⟩⟩
   ·by_cases hj3:3<=j
    ·have HN:Hid (fS v f=false):=hI (by rw[HE.out];simp[show¬j<3 by omega]);rcases hk2 with rfl|rfl;all_goals
      go_quiet (fail);go_wp2_with fail;go_meet
      case rel=>exact⟨zgu,hI ⟨_,rfl⟩⟩
    ·by_cases hc0:cy<0
     ·have HN:Hid (fS v f=false):=hI (by rw[HE.out];simp[show¬0<=cy by omega]);rcases hk2 with rfl|rfl;all_goals
       go_quiet (fail);go_wp2_with fail;go_meet
       case rel=>exact⟨zgu,hI ⟨_,rfl⟩⟩
     ·obtain⟨J,rfl⟩:∃J:Nat,j=(J:Int):=⟨j.toNat,oM⟩;have HN:Hid (fS v f=!v.out.testBit J):=hI (by
       rw[HE.out];have h1:(0:Int)<=(J:Int):=oM;have h2:(J:Int)<3:=oM;have h3:0<=cy:=oM;rcases hk2 with h|h<;>simp[h,h2,h3])
      have hb:=wM v.out J oM;cases hbb:v.out.testBit J;all_goals
       rw[hbb]at hb HN;clear hbb;rcases hk2 with rfl|rfl;all_goals
        go_quiet (fail);go_wp2_with fail;go_meet
        case rel=>exact⟨zgu,hI ⟨_,rfl⟩⟩
  ·have HN:Hid (fS v f=false):=hI (by
    rw[HE.out];have h2:¬k=2:=λh=>hk2 (.inl h);have h4:¬k=4:=λh=>hk2 (.inr h);simp[h2,h4])
   (have n2:(k !=2)=true:=by simpa using λh=>hk2 (.inl h));(have n4:(k !=4)=true:=by simpa using λh=>hk2 (.inr h));clear hk2;go_quiet (fail);go_wp2_with fail;go_meet
   case rel=>exact⟨zgu,hI ⟨_,rfl⟩⟩
 case rest=>
  obtain⟨rfl,hq⟩:=hcut;obtain⟨q,rfl⟩:=hq.out;have H2:Hid (fo (w1.drewN q) B g vt v):=hI (H1.out.turned ((Turned.refl (λ_=>False) w1).drewN q) (λ_ _ h=>h));have HT2:=hI (HT1.out.drewN q);have De:=kb.drewN q;have hg2:=De.lt;clear hq H1 HT1 kb a0 a1 a2 a3 a4 a5 c13 HE hgl;generalize w1.drewN q=w2 at*;cases hh:fS v f with
  |false=>have HE:=hI (Sv hh);clear hh;exact zgf
  |true=>
   have YK:=hh;unfold fS at YK;rw[aaG,HK.out,HJ.out,HC.out]at YK;obtain⟨hk2,hj0,hj3,hc0,_⟩:=YK;simp only[cw,decide_eq_true_eq]at hk2 hj0 hj3 hc0;obtain⟨J,rfl⟩:∃J:Nat,j=(J:Int):=⟨j.toNat,oM⟩;obtain⟨C,rfl⟩:∃C:Nat,cy=(C:Int):=⟨cy.toNat,oM⟩;have HH:=hI hh;have VO:=HW.out.many;obtain⟨A,c,ol,hcc,hget⟩:=H2.out.slice;have BN:=hI ol;(have b0:w2.cell? ⟨g,0,none⟩=some (.slice A v.trace.length c):=by rw[<-ol];exact H2.out.has.aJ 0 _ rfl);have b16:=H2.out.has.aJ 16 (.bool v.bO) rfl;have x0:=De.aJ 0 (I k) X0.out;have x2:=De.aJ 2 (I (C:Int)) X2.out;clear hget ol hj0 hc0 aaO hout hh;by_cases hlast:C+1=v.trace.length
   ·have HE:=hI (Mk HH.out HC.out hlast);(have ht:((C:Int)==(v.trace.length:Int)-1)=true:=zge);have HD:=hI (pL H2.out C oM);have Jf:Hid ((aN (dm v C)).size=23):=hI (cY _ rfl);clear hlast;generalize v.trace.length=n at*;go_wp2_with (first
     |(go_at_call 175;refine HD.out.mono ?_;rintro e wd ⟨rfl,hbd⟩)
     |(refine fO rfl (.tmp 57) rfl (aN (dm v C)) rfl Jf.out ?_))
    go_ret2;have oJ:=hbd.alloc hbd.size (.cells (aN (dm v C)) 214);rw[HG.out,HE.out];exact⟨⟨_,rfl,.inr ⟨_,rfl,by have:=hbd.size;have:=HT2.out.size;have:=HG.out;omega,by rw[lV];exact Has.new _ _ _⟩⟩,⟨vt,H2.out.after oJ,.inl rfl⟩,HT2.out.eU oJ⟩
   ·by_cases hold:C+1<v.trace.length
    ·have HE:=hI (OY HH.out HC.out hold);obtain⟨m,hm⟩:∃m,v.trace.length=m+1:=⟨v.trace.length-1,oM⟩;(have ht:((C:Int)==(m:Int))=false:=zge);have ht2:(C:Int)<(m:Int)+1:=oM;have HD:=hI (λw' (h':fo w' B g vt v)=>pL h' C oM);have HD2:=hI (λw' (h':fo w' B g vt v)=>pL h' m oM);have Jf:Hid ((aN (dm v C)).size=23):=hI (cY _ rfl);have HF8:Hid ((aN (dm v m)).size=23):=hI (cY _ rfl);rw[hm]at b0 HE hcc VO;clear hlast hold;have HM:=hI hm;clear hm;go_upto_region 7 with fail;go_wp2_with (first
      |(go_at_call_of 175 (I (C:Int));refine(HD.out _ H2.out).mono ?_;rintro e wd ⟨rfl,hbd⟩)
      |(go_at_call 175;refine(HD2.out _ (H2.out.after hbd)).mono ?_;rintro e we ⟨rfl,hbe⟩)
      |(refine zS rfl (.tmp 67) (.tmp 71) rfl (aN (dm v C)) (aN (dm v m)) rfl rfl Jf.out HF8.out ?_))
     go_ret2;have oJ:=(hbd.trans (hbe.mono hbd.size)).alloc (aS hbd.size hbe.size) (.cells (aN (dm v C)++aN (dm v m)) 214);rw[HG.out,HE.out];exact⟨⟨_,rfl,.inr ⟨_,rfl,by have:=hbd.size;have:=hbe.size;have:=HT2.out.size;have:=HG.out;omega,by rw[OX];exact Has.new _ _ _⟩⟩,⟨vt,H2.out.after oJ,.inl rfl⟩,HT2.out.eU oJ⟩
    ·(have hcn:v.trace.length<=C:=by omega);(have ht:((C:Int)==(v.trace.length:Int)-1)=false:=zge);have ht2:¬(C:Int)<(v.trace.length:Int):=oM;by_cases hno:v.trace.length<C\/v.bO=true\/k=4
     ·have HE:=hI (OZ HH.out HC.out hcn (by rw[HK.out];exact hno));by_cases hgt:v.trace.length<C;(have ht3:(v.trace.length:Int)<(C:Int):=by omega);clear hlast hold hcn hno hgt;exact zgL
      ·(have ht3:¬(v.trace.length:Int)<(C:Int):=by omega);cases hla:v.bO with
       |true=>rw[hla]at b16;clear hlast hold hcn hno hgt hla;exact zgL
       |false=>rw[hla]at b16;(have hk4:k=4:=by rcases hno with h|h|h;exact absurd h hgt;rw[hla]at h;cases h;exact h);subst hk4;clear hlast hold hcn hno hgt hla hk2;exact zgL
     ·have hCn:v.trace.length=C:=by have:¬v.trace.length<C:=λh=>hno (.inl h);omega
      have hla:v.bO=false:=by
       cases h:v.bO with
       |true=>exact absurd (.inr (.inl h)) hno
       |false=>rfl
      have hk4:k≠4:=λh=>hno (.inr (.inr h));have HE:=hI (Ml HH.out HC.out hCn hla (by rw[HK.out];exact hk4) HJ.out);(have hkk:k=2:=by rcases hk2 with h|h;exact h;exact absurd h hk4);subst hkk;have ht3:¬(v.trace.length:Int)<(C:Int):=oM;rw[hla]at b16;have aah:=(HW.out.more hla).1;have HLA:=hI hla;clear hlast hold hcn hno hla hk4 hk2;have f1:=λi=>H2.out.has.free i;have FR:=hI f1;have HV:=hI H2.out.has;have c41:=H2.out.has.aJ;clear c41 f1;have Nz:J<3:=oM;(go_upto_region 10 with(fail);have y1:=De.aJ 1 (I (J:Int)) X1.out;have y3:=De.aJ 3 (I p0) X3.out;have y4:=De.aJ 4 (I p1) X4.out;have y5:=De.aJ 5 (I p2) X5.out;have z0:=FR.out (1+J*4);have z1:=FR.out (1+J*4+1);have z2:=FR.out (1+J*4+2);have z3:=FR.out (1+J*4+3);have hji:(J:Int)<3:=oM;(go_still_tail 12,kR);change wpList _ _ _ _ _ w2.drew;have hth:w2.drew.there g (1+J*4) 4:=λj hj=>by (have aaP:1+J*4+j<(zR vt v).size:=by show _<17;omega);exact⟨by rw[HV.out.drew.cell,aZ aaP];rfl,HV.out.drew.free _⟩);have his:(prog.info? 159).map (·.size)=some (#[I p0,I p1,I p2,.bool true]:bw).size:=O9;obtain⟨w3,hw3⟩:∃w3,w3=w2.drew.setCells g (1+J*4) (#[I p0,I p1,I p2,.bool true]:bw).toList:=⟨_,rfl⟩;have W9:w3=((((w2.drew.setCell ⟨g,1+J*4,none⟩ (I p0)).setCell ⟨g,1+J*4+1,none⟩ (I p1)).setCell ⟨g,1+J*4+2,none⟩ (I p2)).setCell ⟨g,1+J*4+3,none⟩ (.bool true)):=hw3;have Mm:=hI hth;have HIS:=hI his;have HW3:=hI hw3;have SP:=hI W9;clear hth his hw3 W9;refine wpList_store_mid rfl 159 (.tmp 100) (.tmp 97) rfl g (1+J*4) (#[I p0,I p1,I p2,.bool true]:bw) rfl rfl Mm.out HIS.out (O8 p0 p1 p2) ?_;rw[<-HW3.out];(go_upto_region 11 with fail;clear Mm HIS HW3;have hvl:=HW.out.bF;have k3:Has w3 g 162 (zR vt (jy v J (p0,p1,p2))):=by have h:=(((HV.out.drew.set (1+J*4) (I p0)).set (1+J*4+1) (I p1)).set (1+J*4+2) (I p2)).set (1+J*4+3) (.bool true);rw[O0 vt v J p0 p1 p2 Nz hvl]at h;rw[SP.out];exact h);have t3:Turned (λb=>b=g) w2 w3:=by rw[SP.out];exact(((((Turned.refl (λb=>b=g) w2).drew).setCell ⟨g,1+J*4,none⟩ (I p0) (.inl rfl)).setCell ⟨g,1+J*4+1,none⟩ (I p1) (.inl rfl)).setCell ⟨g,1+J*4+2,none⟩ (I p2) (.inl rfl)).setCell ⟨g,1+J*4+3,none⟩ (.bool true) (.inl rfl)
      have YL:=De.turned t3 (De.ne HV.out dC);have H3:Hid (fo w3 B g vt (jy v J (p0,p1,p2))):=
       hI ⟨k3,iF H2.out.own t3 (λq hq e=>dz H2.out.own HV.out dC (by rw[hq,e])),H2.out.low⟩
      have HT3:Hid (Turned (FV g vt) w w3):=hI (HT2.out.trans t3 (λb _ e=>.inl e));obtain⟨q0,q1,q2⟩:=VF vt (jy v J (p0,p1,p2)) J Nz;rw[Jg v J (p0,p1,p2) Nz hvl]at q0 q1 q2;have Q0:=hI q0;have Q1:=hI q1;have Q2:=hI q2;have YM:=hI (En HW.out J (p0,p1,p2));have YN:Hid ((jy v J (p0,p1,p2)).trace.length=C):=hI hCn;rw[HP.out]at HE;have Df:Hid (vv (jy v J (p0,p1,p2)) J=((p0,p1,p2),true)):=hI (Jg v J (p0,p1,p2) Nz hvl);clear SP t3 De H2 HT2 HV FR z0 z1 z2 z3 y1 y3 y4 y5 x0 x2 b0 b16 q0 q1 q2 hvl BN;have SQ:Hid ((jy v J (p0,p1,p2)).trace=v.trace):=hI rfl;generalize jy v J (p0,p1,p2)=v1 at*;have e1:=k3.aJ 1 (I (vv v1 0).1.1) rfl;have e2:=k3.aJ 2 (I (vv v1 0).1.2.1) rfl;have e3:=k3.aJ 3 (I (vv v1 0).1.2.2) rfl;have e4:=k3.aJ 4 (.bool (vv v1 0).2) rfl;have e5:=k3.aJ 5 (I (vv v1 1).1.1) rfl;have e6:=k3.aJ 6 (I (vv v1 1).1.2.1) rfl;have e7:=k3.aJ 7 (I (vv v1 1).1.2.2) rfl;have e8:=k3.aJ 8 (.bool (vv v1 1).2) rfl;have e9:=k3.aJ 9 (I (vv v1 2).1.1) rfl;have e10:=k3.aJ 10 (I (vv v1 2).1.2.1) rfl;have e11:=k3.aJ 11 (I (vv v1 2).1.2.2) rfl;have e12:=k3.aJ 12 (.bool (vv v1 2).2) rfl;go_wp2_with fail;clear e1 e2 e3 e4 e5 e6 e7 e8 e9 e10 e11 e12;have hg3:=k3.lt;have aaQ:=YL.lt;have KV:=hI k3;have KB:=hI YL;clear k3 YL hg2;go_loopw [105] (λi wr=>∃r:Nat,r<=3/\i=I r/\Hid (∀r',r'<r->dU v1 J (p0,p1,p2) r'=false)/\Below w3.heap.size w3 wr) (λi _=>3-(intOf i).toNat)
      case atStart=>exact⟨0,oM,rfl,hI (λr' h=>oM),Below.refl _ _⟩
      case round=>
       obtain⟨r,hr,rfl,HN,hbr⟩:=hrel;by_cases hlt:r<3
       ·have hgr:=aT hg3 hbr.size;have abl:=aT aaQ hbr.size;have VP:=KV.out.after hbr;have kbr:=KB.out.after hbr;have y1:=kbr.aJ 1 (I (J:Int)) X1.out;have z0:=VP.aJ (1+J*4) (I p0) Q0.out;have z1:=VP.aJ (1+J*4+1) (I p1) Q1.out;have z2:=VP.aJ (1+J*4+2) (I p2) Q2.out;have hji:(J:Int)<3:=oM;clear VP kbr;have hcase:r=0\/r=1\/r=2:=oM;rcases hcase with rfl|rfl|rfl
        ·have hix:=wU (I (vv v1 0).1.1) (I (vv v1 0).1.2.1) (I (vv v1 0).1.2.2) (.bool (vv v1 0).2) (I (vv v1 1).1.1) (I (vv v1 1).1.2.1) (I (vv v1 1).1.2.2) (.bool (vv v1 1).2) (I (vv v1 2).1.1) (I (vv v1 2).1.2.1) (I (vv v1 2).1.2.2) (.bool (vv v1 2).2) wr;have HX:Hid (dU v1 J (p0,p1,p2) 0=(decide (0≠J)&&(vv v1 0).2&&decide ((vv v1 0).1=(p0,p1,p2)))):=hI rfl;by_cases sr:0=J
         ·(have hjt:((0:Int) !=(J:Int))=false:=zge);(have hn:decide (0≠J)=false:=by simpa using sr);have SR:=hI hn;have B2:=hI sr;clear hn sr;have HF:Hid (dU v1 J (p0,p1,p2) 0=false):=hI zgM;go_wp2_with fail;go_quiet (fail);go_wp2_with fail;go_roundw
          case rel=>refine⟨0+1,oM,rF,hI (λr' h=>?_),below_drewN (hbr.alloc hbr.size _) _⟩;rcases cp r' 0 with h'|h';exact zgm;(have:r'=0:=by omega);exact zgj
          case measure=>simp[intOf]
         ·(have hjt:((0:Int) !=(J:Int))=true:=zge);have B2:=hI sr;clear sr;generalize SS:vv v1 0=x at*;clear SS;obtain⟨⟨u0,u1,u2⟩,uf⟩:=x;cases uf with
          |false=>
           have HF:Hid (dU v1 J (p0,p1,p2) 0=false):=hI zgF;go_wp2_with fail;go_quiet (fail);go_wp2_with fail;go_roundw
           case rel=>refine⟨0+1,oM,rF,hI (λr' h=>?_),below_drewN (hbr.alloc hbr.size _) _⟩;rcases cp r' 0 with h'|h';exact zgm;(have:r'=0:=by omega);exact zgj
           case measure=>simp[intOf]
          |true=>
           by_cases h0:u0=p0
           ·subst h0;by_cases h1:u1=p1
            ·subst h1;by_cases h2:u2=p2
             ·subst h2;have HF:Hid (dU v1 J (u0,u1,u2) 0=true):=hI zgI;have BX:Hid (alike v1.bF J (u0,u1,u2)=true):=hI zgR;have wX:=hI HE.out;rw[BX.out,if_pos rfl]at wX;have H4:=hI (H3.out.after (hbr.mono (aj _)));have B3:Hid (B<=wr.heap.size):=hI zgn;clear HX B2;(go_wp2_with fail;go_quiet (fail);(go_wp2_with (go_at_call 176;refine(si (H4.out.turned (((Turned.refl (λ_=>False) wr).alloc _).drewN _) (λ_ _ h=>h)) YM.out zgS (aS B3.out sM) (u0,u1,u2)).mono ?_;rintro e w9 ⟨⟨gr,rfl,Jt,Ju⟩,⟨SU,BP,SV⟩,SX⟩));go_ret2;have Xa:w3.heap.size<=wr.heap.size:=hbr.size;have hwz:w.heap.size<=w3.heap.size:=HT3.out.size;rw[wX.out];refine⟨⟨_,rfl,.inr ⟨gr,rfl,?_,?_⟩⟩,⟨SU,BP,?_⟩,?_⟩);simp at Jt;omega;exact zgG;rcases SV with h|⟨b,hb,h⟩;exact .inl h;exact zgw;exact zgq
             ·(have Sr:(u2==p2)=false:=by simpa using h2);have HF:Hid (dU v1 J (u0,u1,p2) 0=false):=hI zgz;go_wp2_with fail;go_quiet (fail);go_wp2_with fail;go_roundw
              case rel=>refine⟨0+1,oM,rF,hI (λr' h=>?_),below_drewN (hbr.alloc hbr.size _) _⟩;rcases cp r' 0 with h'|h';exact zgm;(have:r'=0:=by omega);exact zgj
              case measure=>simp[intOf]
            ·(have Mi:(u1==p1)=false:=by simpa using h1);have HF:Hid (dU v1 J (u0,p1,p2) 0=false):=hI zgA;go_wp2_with fail;go_quiet (fail);go_wp2_with fail;go_roundw
             case rel=>refine⟨0+1,oM,rF,hI (λr' h=>?_),below_drewN (hbr.alloc hbr.size _) _⟩;rcases cp r' 0 with h'|h';exact zgm;(have:r'=0:=by omega);exact zgj
             case measure=>simp[intOf]
           ·(have Ss:(u0==p0)=false:=by simpa using h0);have HF:Hid (dU v1 J (p0,p1,p2) 0=false):=hI zgB;go_wp2_with fail;go_quiet (fail);go_wp2_with fail;go_roundw
            case rel=>refine⟨0+1,oM,rF,hI (λr' h=>?_),below_drewN (hbr.alloc hbr.size _) _⟩;rcases cp r' 0 with h'|h';exact zgm;(have:r'=0:=by omega);exact zgj
            case measure=>simp[intOf]
        ·have hix:=wV (I (vv v1 0).1.1) (I (vv v1 0).1.2.1) (I (vv v1 0).1.2.2) (.bool (vv v1 0).2) (I (vv v1 1).1.1) (I (vv v1 1).1.2.1) (I (vv v1 1).1.2.2) (.bool (vv v1 1).2) (I (vv v1 2).1.1) (I (vv v1 2).1.2.1) (I (vv v1 2).1.2.2) (.bool (vv v1 2).2) wr;have HX:Hid (dU v1 J (p0,p1,p2) 1=(decide (1≠J)&&(vv v1 1).2&&decide ((vv v1 1).1=(p0,p1,p2)))):=hI rfl;by_cases sr:1=J
         ·(have hjt:((1:Int) !=(J:Int))=false:=zge);(have hn:decide (1≠J)=false:=by simpa using sr);have SR:=hI hn;have B2:=hI sr;clear hn sr;have HF:Hid (dU v1 J (p0,p1,p2) 1=false):=hI zgM;go_wp2_with fail;go_quiet (fail);go_wp2_with fail;go_roundw
          case rel=>refine⟨1+1,oM,rF,hI (λr' h=>?_),below_drewN (hbr.alloc hbr.size _) _⟩;rcases cp r' 1 with h'|h';exact zgm;(have:r'=1:=by omega);exact zgj
          case measure=>simp[intOf]
         ·(have hjt:((1:Int) !=(J:Int))=true:=zge);have B2:=hI sr;clear sr;generalize SS:vv v1 1=x at*;clear SS;obtain⟨⟨u0,u1,u2⟩,uf⟩:=x;cases uf with
          |false=>
           have HF:Hid (dU v1 J (p0,p1,p2) 1=false):=hI zgF;go_wp2_with fail;go_quiet (fail);go_wp2_with fail;go_roundw
           case rel=>refine⟨1+1,oM,rF,hI (λr' h=>?_),below_drewN (hbr.alloc hbr.size _) _⟩;rcases cp r' 1 with h'|h';exact zgm;(have:r'=1:=by omega);exact zgj
           case measure=>simp[intOf]
          |true=>
           by_cases h0:u0=p0
           ·subst h0;by_cases h1:u1=p1
            ·subst h1;by_cases h2:u2=p2
             ·subst h2;have HF:Hid (dU v1 J (u0,u1,u2) 1=true):=hI zgI;have BX:Hid (alike v1.bF J (u0,u1,u2)=true):=hI zgR;have wX:=hI HE.out;rw[BX.out,if_pos rfl]at wX;have H4:=hI (H3.out.after (hbr.mono (aj _)));have B3:Hid (B<=wr.heap.size):=hI zgn;clear HX B2;(go_wp2_with fail;go_quiet (fail);(go_wp2_with (go_at_call 176;refine(si (H4.out.turned (((Turned.refl (λ_=>False) wr).alloc _).drewN _) (λ_ _ h=>h)) YM.out zgS (aS B3.out sM) (u0,u1,u2)).mono ?_;rintro e w9 ⟨⟨gr,rfl,Jt,Ju⟩,⟨SU,BP,SV⟩,SX⟩));go_ret2;have Xa:w3.heap.size<=wr.heap.size:=hbr.size;have hwz:w.heap.size<=w3.heap.size:=HT3.out.size;rw[wX.out];refine⟨⟨_,rfl,.inr ⟨gr,rfl,?_,?_⟩⟩,⟨SU,BP,?_⟩,?_⟩);simp at Jt;omega;exact zgG;rcases SV with h|⟨b,hb,h⟩;exact .inl h;exact zgw;exact zgq
             ·(have Sr:(u2==p2)=false:=by simpa using h2);have HF:Hid (dU v1 J (u0,u1,p2) 1=false):=hI zgz;go_wp2_with fail;go_quiet (fail);go_wp2_with fail;go_roundw
              case rel=>refine⟨1+1,oM,rF,hI (λr' h=>?_),below_drewN (hbr.alloc hbr.size _) _⟩;rcases cp r' 1 with h'|h';exact zgm;(have:r'=1:=by omega);exact zgj
              case measure=>simp[intOf]
            ·(have Mi:(u1==p1)=false:=by simpa using h1);have HF:Hid (dU v1 J (u0,p1,p2) 1=false):=hI zgA;go_wp2_with fail;go_quiet (fail);go_wp2_with fail;go_roundw
             case rel=>refine⟨1+1,oM,rF,hI (λr' h=>?_),below_drewN (hbr.alloc hbr.size _) _⟩;rcases cp r' 1 with h'|h';exact zgm;(have:r'=1:=by omega);exact zgj
             case measure=>simp[intOf]
           ·(have Ss:(u0==p0)=false:=by simpa using h0);have HF:Hid (dU v1 J (p0,p1,p2) 1=false):=hI zgB;go_wp2_with fail;go_quiet (fail);go_wp2_with fail;go_roundw
            case rel=>refine⟨1+1,oM,rF,hI (λr' h=>?_),below_drewN (hbr.alloc hbr.size _) _⟩;rcases cp r' 1 with h'|h';exact zgm;(have:r'=1:=by omega);exact zgj
            case measure=>simp[intOf]
        ·have hix:=wW (I (vv v1 0).1.1) (I (vv v1 0).1.2.1) (I (vv v1 0).1.2.2) (.bool (vv v1 0).2) (I (vv v1 1).1.1) (I (vv v1 1).1.2.1) (I (vv v1 1).1.2.2) (.bool (vv v1 1).2) (I (vv v1 2).1.1) (I (vv v1 2).1.2.1) (I (vv v1 2).1.2.2) (.bool (vv v1 2).2) wr;have HX:Hid (dU v1 J (p0,p1,p2) 2=(decide (2≠J)&&(vv v1 2).2&&decide ((vv v1 2).1=(p0,p1,p2)))):=hI rfl;by_cases sr:2=J
         ·(have hjt:((2:Int) !=(J:Int))=false:=zge);(have hn:decide (2≠J)=false:=by simpa using sr);have SR:=hI hn;have B2:=hI sr;clear hn sr;have HF:Hid (dU v1 J (p0,p1,p2) 2=false):=hI zgM;go_wp2_with fail;go_quiet (fail);go_wp2_with fail;go_roundw
          case rel=>refine⟨2+1,oM,rF,hI (λr' h=>?_),below_drewN (hbr.alloc hbr.size _) _⟩;rcases cp r' 2 with h'|h';exact zgm;(have:r'=2:=by omega);exact zgj
          case measure=>simp[intOf]
         ·(have hjt:((2:Int) !=(J:Int))=true:=zge);have B2:=hI sr;clear sr;generalize SS:vv v1 2=x at*;clear SS;obtain⟨⟨u0,u1,u2⟩,uf⟩:=x;cases uf with
          |false=>
           have HF:Hid (dU v1 J (p0,p1,p2) 2=false):=hI zgF;go_wp2_with fail;go_quiet (fail);go_wp2_with fail;go_roundw
           case rel=>refine⟨2+1,oM,rF,hI (λr' h=>?_),below_drewN (hbr.alloc hbr.size _) _⟩;rcases cp r' 2 with h'|h';exact zgm;(have:r'=2:=by omega);exact zgj
           case measure=>simp[intOf]
          |true=>
           by_cases h0:u0=p0
           ·subst h0;by_cases h1:u1=p1
            ·subst h1;by_cases h2:u2=p2
             ·subst h2;have HF:Hid (dU v1 J (u0,u1,u2) 2=true):=hI zgI;have BX:Hid (alike v1.bF J (u0,u1,u2)=true):=hI zgR;have wX:=hI HE.out;rw[BX.out,if_pos rfl]at wX;have H4:=hI (H3.out.after (hbr.mono (aj _)));have B3:Hid (B<=wr.heap.size):=hI zgn;clear HX B2;(go_wp2_with fail;go_quiet (fail);(go_wp2_with (go_at_call 176;refine(si (H4.out.turned (((Turned.refl (λ_=>False) wr).alloc _).drewN _) (λ_ _ h=>h)) YM.out zgS (aS B3.out sM) (u0,u1,u2)).mono ?_;rintro e w9 ⟨⟨gr,rfl,Jt,Ju⟩,⟨SU,BP,SV⟩,SX⟩));go_ret2;have Xa:w3.heap.size<=wr.heap.size:=hbr.size;have hwz:w.heap.size<=w3.heap.size:=HT3.out.size;rw[wX.out];refine⟨⟨_,rfl,.inr ⟨gr,rfl,?_,?_⟩⟩,⟨SU,BP,?_⟩,?_⟩);simp at Jt;omega;exact zgG;rcases SV with h|⟨b,hb,h⟩;exact .inl h;exact zgw;exact zgq
             ·(have Sr:(u2==p2)=false:=by simpa using h2);have HF:Hid (dU v1 J (u0,u1,p2) 2=false):=hI zgz;go_wp2_with fail;go_quiet (fail);go_wp2_with fail;go_roundw
              case rel=>refine⟨2+1,oM,rF,hI (λr' h=>?_),below_drewN (hbr.alloc hbr.size _) _⟩;rcases cp r' 2 with h'|h';exact zgm;(have:r'=2:=by omega);exact zgj
              case measure=>simp[intOf]
            ·(have Mi:(u1==p1)=false:=by simpa using h1);have HF:Hid (dU v1 J (u0,p1,p2) 2=false):=hI zgA;go_wp2_with fail;go_quiet (fail);go_wp2_with fail;go_roundw
             case rel=>refine⟨2+1,oM,rF,hI (λr' h=>?_),below_drewN (hbr.alloc hbr.size _) _⟩;rcases cp r' 2 with h'|h';exact zgm;(have:r'=2:=by omega);exact zgj
             case measure=>simp[intOf]
           ·(have Ss:(u0==p0)=false:=by simpa using h0);have HF:Hid (dU v1 J (p0,p1,p2) 2=false):=hI zgB;go_wp2_with fail;go_quiet (fail);go_wp2_with fail;go_roundw
            case rel=>refine⟨2+1,oM,rF,hI (λr' h=>?_),below_drewN (hbr.alloc hbr.size _) _⟩;rcases cp r' 2 with h'|h';exact zgm;(have:r'=2:=by omega);exact zgj
            case measure=>simp[intOf]
       ·(have hr3:r=3:=by omega);subst hr3;have BX:Hid (alike v1.bF J (p0,p1,p2)=false):=hI (by rw[tI,HN.out 0 dC,HN.out 1 dC,HN.out 2 dC];rfl);have wX:=hI HE.out;rw[BX.out,if_neg dC]at wX;go_wp2;go_ret2;rw[wX.out];exact⟨⟨_,rfl,jU _ _⟩,⟨vt,H3.out.after hbr,.inl rfl⟩,HT3.out.eU hbr⟩
end
end Go.Proofs.YtdhekhlmdefcnaaGreatDoor

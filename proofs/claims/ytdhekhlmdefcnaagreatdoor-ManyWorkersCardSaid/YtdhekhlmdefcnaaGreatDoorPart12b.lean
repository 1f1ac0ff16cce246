/- Part 12b of the proof. -/
import Derived.Test.YtdhekhlmdefcnaaGreatDoorPart12
set_option maxHeartbeats 16000000
set_option maxRecDepth 1000000
namespace Go.Proofs.YtdhekhlmdefcnaaGreatDoor
open Go.Proofs.Tryz Go.RowKit
theorem Cr(p:Nat->Bool)(s:ay):∀(f pos:Nat)(st:Option Nat)(acc:List (Nat×Nat)),(Lib.spansFromP p s f pos st acc).1.length<=acc.length+f
 |0,_,_,acc=>aj _
 |f+1,pos,st,acc=>by have ih:=Cr p s f;unfold Lib.spansFromP;split;split;split;rename_i a;have h:=ih (pos+(Utf8.decode s pos).2) none (acc++[(a,pos)]);rw[bm,List.length_singleton]at h;omega;have h:=ih (pos+(Utf8.decode s pos).2) none acc;omega;split;rename_i a;have h:=ih (pos+(Utf8.decode s pos).2) (some a) acc;omega;have h:=ih (pos+(Utf8.decode s pos).2) (some pos) acc;omega;show acc.length<=_;omega
theorem zD(s:ay):(fieldsB s).length<=s.size+1:=by unfold fieldsB Lib.goFieldsP Lib.spansOfP;have h:=Cr qI s s.size 0 none [];rw[List.length_map];unfold Lib.closeSpans;split<;>simp at h⊢<;>omega
theorem xw(s:ay):∀t∈fieldsB s,t.size<=s.size:=λt ht=>by unfold fieldsB Lib.goFieldsP at ht;obtain⟨y,_,rfl⟩:=List.mem_map.1 ht;rw[ByteArray.size_extract];omega
theorem Kd(w:aa):(binOp .eql 55 .nilFunc .nilFunc).run prog w=.ok (.bool true) w:=by
 have he:∀d,(Op.equalIn (d+1) 55 .nilFunc .nilFunc).run prog w=.ok true w:=λd=>by simp[Op.equalIn,run_underlying underlying55]
 exact zcN
theorem GD(fn:Fn)(a b:bw)(w:aa):(binOp .eql 55 (.func fn a b) .nilFunc).run prog w=.ok (.bool false) w:=by
 have he:∀d,(Op.equalIn (d+1) 55 (.func fn a b) .nilFunc).run prog w=.ok false w:=λd=>by simp[Op.equalIn,run_underlying underlying55]
 exact zcN
section
variable {w w':aa}{B g:Nat}{x:fV}{vr:ae}{d:Dk}{T:Nat}
theorem dV.put(h:dV w B g x vr d){gl:Nat}{cs:bw}(hh:Has w gl 9 cs)(i:Nat)(v:ae):dV (w.setCell ⟨gl,i,none⟩ v) B g x vr d:=by have ht:Turned (λb=>b=gl) w (w.setCell ⟨gl,i,none⟩ v):=(Turned.refl _ _).setCell _ _ (.inl rfl);have hF:∀b,b=gl->Own Zi w b:=λb e=>⟨_,_,e▸hh,rfl⟩;exact⟨h.has.far (h.has.ne hh dC) _,h.routes.keep λb cs k=>k.iN ht hF rfl,h.sys.J7 ht hF,h.low,h.ok,aS h.hB ht.size⟩
def yA(w:aa)(B g:Nat)(x:fV)(r:Dk×By)(e:Ending)(w':aa):Prop:=e=.returned (.string ⟨r.2.toArray⟩)/\∃x' vx,dV w' B g x' vx r.1/\lq w w' g x x'
theorem MJ(h:dV w B g x vr d)(s:ay)(hz:s.size<=50000)(hn:fieldsB s=[]):Calls prog 18 #[pT g 0,.string s] w (yA w B g x (d,[111,107])):=by
 have Ri:∀(fn:Fn)(first cap:bw)(w:aa),(Instr.makeFunc fn first cap).run prog w=.ok (.func fn first cap) w:=λ_ _ _ _=>rfl;have HH:=hI h;have k0:=Has.new w 9 #[.string ⟨#[]⟩];have hb0:Below w.heap.size w (w.alloc (.cells #[.string ⟨#[]⟩] 9)):=(Below.refl _ _).alloc (aj _) _;have Ke:=hI (Tryz.strings_FieldsFunc 48 #[] (enters_of func48 kR rfl) qI s (w.alloc (.cells #[.string ⟨#[]⟩] 9)) oM (yz _));rw[show Lib.goFieldsP qI s=[]from hn]at Ke;have HK:=hI k0;have HB0:=hI hb0;clear h k0 hb0 hn;go_enter_defers func18,ntmps18;go_upto_region 1 with fail;generalize w.alloc (.cells #[.string ⟨#[]⟩] 9)=w1 at*;generalize hG:w.heap.size=gl at*;have HG:=hI hG;clear hG;go_upto_region 3 with(go_at_call 47;refine Ke.out.mono ?_;rintro e w2 ⟨A2,rfl,-,ho,hb2⟩;have HB2:Hid (Below gl w w2):=hI (HB0.out.trans (hb2.mono (bA HK.out.lt)));have xx:=hI (HK.out.after hb2);clear ho hb2)
 have q0:=xx.out.aJ 0 _ rfl;have q1:=xx.out.free 0;have q2:=xx.out.lt;go_wp2;refine leaves_cons (f:=45) (args:=#[pT gl 0]) sM zcQ ?_;refine(sG ⟨gl,0,none⟩ _).mono ?_;rintro e u' w'' ⟨rfl,rfl,rfl⟩;have kz:=xx.out.set 0 (.string ⟨#[111,107]⟩);have z0:=kz.aJ 0 (.string ⟨#[111,107]⟩) rfl;refine⟨.string ⟨#[111,107]⟩,?_,rfl,x,vr,(HH.out.after (HG.out▸HB2.out)).put xx.out 0 _,?_⟩;exact zcO;have hm:Below gl w (w2.setCell ⟨gl,0,none⟩ (.string ⟨#[111,107]⟩)):=HB2.out.setCell (p:=⟨gl,0,none⟩) (aj _) _;exact lq.of_below (HG.out▸hm)
theorem PW(h:dV w B g x vr d)(hs:Std w)(s:ay)(hz:s.size<=50000){a:ay}{l:List ay}(hn:fieldsB s=a::l)(hq:lz.find? (qJ a.data.toList)=none):Calls prog 18 #[pT g 0,.string s] w (yA w B g x (d,Kb (.err 3))):=by
 have HV:Hid (sB g a=.nilFunc):=hI (by unfold sB;rw[hq]);have Ri:∀(fn:Fn)(first cap:bw)(w:aa),(Instr.makeFunc fn first cap).run prog w=.ok (.func fn first cap) w:=λ_ _ _ _=>rfl;have HH:=hI h;have k0:=Has.new w 9 #[.string ⟨#[]⟩];have hb0:Below w.heap.size w (w.alloc (.cells #[.string ⟨#[]⟩] 9)):=(Below.refl _ _).alloc (aj _) _;have Ke:=hI (Tryz.strings_FieldsFunc 48 #[] (enters_of func48 kR rfl) qI s (w.alloc (.cells #[.string ⟨#[]⟩] 9)) oM (yz _));rw[show Lib.goFieldsP qI s=a::l from hn]at Ke;have HK:=hI k0;have HB0:=hI hb0;have hl1:l.length<=100000:=by have:=zD s;rw[hn]at this;simp at this;omega
 have Zj:=hI hl1;have HL2:Hid (∀t∈l,t.size<=100000):=hI λt ht=>by have:=xw s t zcK;omega
 have HS:=hI hs;clear h hs k0 hb0 hn;go_enter_defers func18,ntmps18;go_upto_region 1 with fail;generalize w.alloc (.cells #[.string ⟨#[]⟩] 9)=w1 at*;generalize hG:w.heap.size=gl at*;have HG:=hI hG;clear hG;go_upto_region 3 with(go_at_call 47;refine Ke.out.mono ?_;rintro e w2 ⟨A2,rfl,-,ho,hb2⟩;have HB2:Hid (Below gl w w2):=hI (HB0.out.trans (hb2.mono (bA HK.out.lt)));have xx:=hI (HK.out.after hb2);have HO:=hI ho;clear ho hb2)
 obtain⟨b9,c9,cs,Zk,-,hh,hcs⟩:=jz HO.out sM;injection Zk with e1 e2 e3;injection e1 with e1;injection e1 with e1;subst e1 e3;have hq0:w2.cell? ⟨A2,0,none⟩=some (.string a):=by rw[hh.cell];exact hcs 0 _ rfl
 have hbl:=hh.lt;have hi0:0<l.length+1:=oM;have hi1:(1:Int)<=((l.length+1:Nat):Int):=oM;have hne:¬((l.length+1:Nat):Int)=0:=oM;have Wp:Hid (∀c3,Words w2 (if c3=1 then some ⟨A2,0,none⟩else some ⟨A2,1,none⟩) l\/c3≠l.length+1):=hI λc3=>by by_cases hc:c3=l.length+1;exact zcA;exact .inr hc
 have ML:=hI (Cj g a w2);have HH2:=hI (HH.out.after (HG.out▸HB2.out));have HS2:Hid (Std w2):=hI (HS.out.after (HG.out▸HB2.out));clear hh hcs HO hl1;rw[HV.out]at ML;have hfn:=Kd;go_wp2_with (first
  |(go_at_call 49;refine ML.out.mono ?_;rintro e w3 ⟨rfl,hb3⟩;have HB3:=hI (HB2.out.trans (hb3.mono (bA xx.out.lt)));have Wq:=hI (xx.out.after hb3);have ui:Hid (Std w3):=hI (HS2.out.after hb3);clear hb3 hq0 hbl)
  |(go_at_call 41;refine(eJ 3 _ (hI ui.out.et)).mono ?_;rintro e w4 ⟨rfl,hb4⟩;have V6:=hI (HB3.out.trans (hb4.mono (bA Wq.out.lt)));have pw:=hI (Wq.out.after hb4);have B3:Hid (Std w4):=hI (ui.out.after hb4);clear hb4))
 refine leaves_cons (f:=45) (args:=#[pT gl 0]) sM zcQ ?_;refine(qC gl ⟨#[]⟩ 3 ⟨dC,dC⟩ w4 pw.out B3.out).mono ?_;rintro e u' w'' ⟨rfl,rfl,w5,hb5,rfl⟩;have hk5:=pw.out.after hb5;have hb6:Below gl w w5:=V6.out.trans (hb5.mono (bA pw.out.lt));have z0:=(hk5.set 0 (.string (⟨#[101,114,114,111,114,32]⟩++⟨(Lib.itoa 3).toArray⟩))).aJ 0 (.string (⟨#[101,114,114,111,114,32]⟩++⟨(Lib.itoa 3).toArray⟩)) rfl;refine⟨.string (⟨#[101,114,114,111,114,32]⟩++⟨(Lib.itoa 3).toArray⟩),?_,?_,x,vr,(HH.out.after (HG.out▸hb6)).put hk5 0 _,?_⟩;exact zcO;exact congrArg (λb=>Ending.returned (.string b)) (xq [101,114,114,111,114,32] (Lib.itoa 3));have hm:Below gl w (w5.setCell ⟨gl,0,none⟩ (.string (⟨#[101,114,114,111,114,32]⟩++⟨(Lib.itoa 3).toArray⟩))):=hb6.setCell (p:=⟨gl,0,none⟩) (aj _) _;exact lq.of_below (HG.out▸hm)
theorem oU{gl:Nat}{x':fV}{w2 w3:aa}{t:ae}(h2:Below gl w w2)(hg:w.heap.size=gl)(hm:lq w2 w3 g x x')(_hx:∀b,FD g x b->b<w.heap.size)(hk:Has w3 gl 9 #[t])(v:ae):lq w (w3.setCell ⟨gl,0,none⟩ v) g x x':=by subst hg;have h1:lq w w3 g x x':=(lq.of_below h2).trans hm;refine⟨h1.turned.trans ((Turned.refl (λb=>b=w.heap.size) _).setCell ⟨w.heap.size,0,none⟩ v (.inl rfl)) λk hkk hf=>?_,h1.blocks⟩;omega
theorem PX(h:dV w B g x vr d)(hB:9<=B)(hf:bL T d.s)(hT:T<=9900000000)(hs:Std w)(s:ay)(hz:s.size<=50000){a:ay}{l:List ay}(hn:fieldsB s=a::l){p:By×xm×Nat}(hq:lz.find? (qJ a.data.toList)=some p):Calls prog 18 #[pT g 0,.string s] w (yA w B g x ((bB p.2.1 d l).1,Kb (bB p.2.1 d l).2)):=by
 have HV:Hid (sB g a=zx g p):=hI (by unfold sB;rw[hq]);have hp:=List.mem_of_find?_eq_some hq;have oa:=hI (Ka p hp);have HCM:Hid (∀(w3:aa)(AA:Option Addr)(c:Nat),dV w3 B g x vr d->Words w3 AA l->Std w3->Calls prog p.2.2 #[pT g 0,.slice AA l.length c] w3 (cv w3 B g x (bB p.2.1 d l))):=hI λw3 AA c h3 hw3 hs3=>Wo h3 hf hT hw3 c hs3 p hp;have wX:Hid (∀n,(bB p.2.1 d l).2=.err n->eu n):=hI λn hh=>by have:=Cq _ _ _ _ hh;exact⟨oM,oM⟩
 have HNB:=hI hB;clear hf hT hp hB;unfold zx at HV;generalize bB p.2.1 d l=r at*;generalize p.2.2=X at*;obtain⟨d',ans⟩:=r;have Ri:∀(fn:Fn)(first cap:bw)(w:aa),(Instr.makeFunc fn first cap).run prog w=.ok (.func fn first cap) w:=λ_ _ _ _=>rfl;have HH:=hI h;have k0:=Has.new w 9 #[.string ⟨#[]⟩];have hb0:Below w.heap.size w (w.alloc (.cells #[.string ⟨#[]⟩] 9)):=(Below.refl _ _).alloc (aj _) _;have Ke:=hI (Tryz.strings_FieldsFunc 48 #[] (enters_of func48 kR rfl) qI s (w.alloc (.cells #[.string ⟨#[]⟩] 9)) oM (yz _));rw[show Lib.goFieldsP qI s=a::l from hn]at Ke;have HK:=hI k0;have HB0:=hI hb0;have hl1:l.length<=100000:=by have:=zD s;rw[hn]at this;simp at this;omega
 have Zj:=hI hl1;have HL2:Hid (∀t∈l,t.size<=100000):=hI λt ht=>by have:=xw s t zcK;omega
 have HS:=hI hs;clear h hs k0 hb0 hn;go_enter_defers func18,ntmps18;go_upto_region 1 with fail;generalize w.alloc (.cells #[.string ⟨#[]⟩] 9)=w1 at*;generalize hG:w.heap.size=gl at*;have HG:=hI hG;clear hG;go_upto_region 3 with(go_at_call 47;refine Ke.out.mono ?_;rintro e w2 ⟨A2,rfl,-,ho,hb2⟩;have HB2:Hid (Below gl w w2):=hI (HB0.out.trans (hb2.mono (bA HK.out.lt)));have xx:=hI (HK.out.after hb2);have HO:=hI ho;clear ho hb2)
 obtain⟨b9,c9,cs,Zk,-,hh,hcs⟩:=jz HO.out sM;injection Zk with e1 e2 e3;injection e1 with e1;injection e1 with e1;subst e1 e3;have hq0:w2.cell? ⟨A2,0,none⟩=some (.string a):=by rw[hh.cell];exact hcs 0 _ rfl
 have hbl:=hh.lt;have hi0:0<l.length+1:=oM;have hi1:(1:Int)<=((l.length+1:Nat):Int):=oM;have hne:¬((l.length+1:Nat):Int)=0:=oM;have Wp:Hid (∀c3,Words w2 (if c3=1 then some ⟨A2,0,none⟩else some ⟨A2,1,none⟩) l\/c3≠l.length+1):=hI λc3=>by by_cases hc:c3=l.length+1;exact zcA;exact .inr hc
 have ML:=hI (Cj g a w2);have HH2:=hI (HH.out.after (HG.out▸HB2.out));have HS2:Hid (Std w2):=hI (HS.out.after (HG.out▸HB2.out));clear hh hcs HO hl1;rw[HV.out]at ML;have hfs:=GD;have hEX:=oa.out;go_upto_region 8 with(first
  |(go_at_call 49;refine ML.out.mono ?_;rintro e w3 ⟨rfl,hb3⟩;have HB3:=hI (HB2.out.trans (hb3.mono (bA xx.out.lt)));have Wq:=hI (xx.out.after hb3);have ui:Hid (Std w3):=hI (HS2.out.after hb3);have Zl:=hI (HH2.out.after hb3);have Uc:Hid (∀c3,Words w3 (if c3=1 then some ⟨A2,0,none⟩else some ⟨A2,1,none⟩) l\/c3≠l.length+1):=hI (λc3=>(Wp.out c3).imp (λhh=>hh.after hb3) id);clear hb3 hq0 hbl))
 have Ud:Hid (∀b,FD g x b->b<gl):=hI λb hb=>by rw[<-HG.out];rcases hb with rfl|hb;exact HH.out.has.lt;exact HH.out.sys.lt hb
 have HKX:Hid (∀w4 x',lq w3 w4 g x x'->Has w4 gl 9 #[.string ⟨#[]⟩]):=hI λw4 x' hm=>Wq.out.turned hm.turned λhf=>by have:=Ud.out _ hf;omega
 have MG:Hid (∀w4 x',lq w3 w4 g x x'->Std w4):=hI λw4 x' hm=>ui.out.below HNB.out (hm.below Zl.out);have hl:(l.length=0->Hid (Words w3 (some ⟨A2,0,none⟩) l))/\(0<l.length->Hid (Words w3 (some ⟨A2,1,none⟩) l)):=by rcases Uc.out (l.length+1)with hw|hw;refine⟨λh0=>hI ?_,λh0=>hI ?_⟩;rw[if_pos oM]at hw;exact hw;rw[if_neg oM]at hw;exact hw;exact absurd rfl hw
 rcases Nat.eq_zero_or_pos l.length with hl0|hl0
 ·have Ua:=hl.1 hl0;have hle:l=[]:=cM hl0;subst hle;clear hl hl0 Wp Uc ML;go_wp2_with fail;refine(HCM.out w3 _ _ Zl.out Ua.out ui.out).mono ?_;rintro e w4 ⟨he,x',vx,hd4,GF⟩;have HD4:=hI hd4;have Ue:=hI GF;have pw:=hI (HKX.out w4 x' GF);have B3:=hI (MG.out w4 x' GF);clear hd4 GF;cases ans with
  |txt t=>exact zcy
  |err n=>obtain rfl:e=.panicked (xl n):=he;refine leaves_cons (f:=45) (args:=#[pT gl 0]) sM zcQ ?_;refine(qC gl ⟨#[]⟩ n (wX.out n rfl) w4 pw.out B3.out).mono ?_;rintro e u' w'' ⟨rfl,rfl,w5,hb5,rfl⟩;have hk5:=pw.out.after hb5;have z0:=(hk5.set 0 (.string (⟨#[101,114,114,111,114,32]⟩++⟨(Lib.itoa n).toArray⟩))).aJ 0 (.string (⟨#[101,114,114,111,114,32]⟩++⟨(Lib.itoa n).toArray⟩)) rfl;refine⟨.string (⟨#[101,114,114,111,114,32]⟩++⟨(Lib.itoa n).toArray⟩),?_,?_,x',vx,(HD4.out.after hb5).put hk5 0 _,oU HB3.out HG.out (Ue.out.trans (lq.of_below hb5)) (λb hb=>HG.out▸Ud.out b hb) hk5 _⟩;exact zcO;exact zcE
 ·have Ua:=hl.2 hl0;have hl1:¬l.length=0:=oM;clear hl Wp Uc ML;go_wp2_with fail;refine(HCM.out w3 _ _ Zl.out Ua.out ui.out).mono ?_;rintro e w4 ⟨he,x',vx,hd4,GF⟩;have HD4:=hI hd4;have Ue:=hI GF;have pw:=hI (HKX.out w4 x' GF);have B3:=hI (MG.out w4 x' GF);clear hd4 GF;cases ans with
  |txt t=>exact zcy
  |err n=>obtain rfl:e=.panicked (xl n):=he;refine leaves_cons (f:=45) (args:=#[pT gl 0]) sM zcQ ?_;refine(qC gl ⟨#[]⟩ n (wX.out n rfl) w4 pw.out B3.out).mono ?_;rintro e u' w'' ⟨rfl,rfl,w5,hb5,rfl⟩;have hk5:=pw.out.after hb5;have z0:=(hk5.set 0 (.string (⟨#[101,114,114,111,114,32]⟩++⟨(Lib.itoa n).toArray⟩))).aJ 0 (.string (⟨#[101,114,114,111,114,32]⟩++⟨(Lib.itoa n).toArray⟩)) rfl;refine⟨.string (⟨#[101,114,114,111,114,32]⟩++⟨(Lib.itoa n).toArray⟩),?_,?_,x',vx,(HD4.out.after hb5).put hk5 0 _,oU HB3.out HG.out (Ue.out.trans (lq.of_below hb5)) (λb hb=>HG.out▸Ud.out b hb) hk5 _⟩;exact zcO;exact zcE
theorem Uf(h:dV w B g x vr d)(hB:9<=B)(hf:bL T d.s)(hT:T<=9900000000)(hs:Std w)(s:ay)(hz:s.size<=50000):Calls prog 18 #[pT g 0,.string s] w (yA w B g x (dT d s)):=by
 unfold dT;cases hn:fieldsB s with
 |nil=>exact MJ h s hz hn
 |cons a l=>
  show Calls _ _ _ _ (yA w B g x (match lz.find? (qJ a.data.toList)with|none=>(d,Kb (.err 3))|some p=>((bB p.2.1 d l).1,Kb (bB p.2.1 d l).2)));cases hq:lz.find? (qJ a.data.toList)with
  |none=>exact PW h hs s hz hn hq
  |some p=>exact PX h hB hf hT hs s hz hn hq
end
theorem yB:Builder.Extra prog Tryz.qA:={
 sizeBuilder:=kR
 liesBuilder:=kR
 t5:=underlying5
 a5:=Tryz.isAgg5
 z5:=Tryz.sizeOf5
 v5:=Tryz.zeroValue5
 infoByte:=kR
 cellsByte:=kR
 sizeByte:=kR
 neB5:=by decide}
structure lB(w:aa)(B b:Nat)(v:ae)(l:By):Prop where
 has:∃p,(p=.pointer none\/p=pT b 0)/\Has w b 58 #[p,v]
 own:w.ownsRow B 5 1 v l.length (Lib.byteCells l)
 low:B<=b
def FB(b:Nat)(v:ae)(k:Nat):Prop:=k=b\/v.ownBlock=some k
section
variable {w:aa}{B b:Nat}{v:ae}{l:By}
theorem lB.ne(h:lB w B b v l):v.ownBlock≠some b:=λe=>by obtain⟨p,_,hh⟩:=h.has;obtain⟨_,cur,hc⟩:=iM h.own e;exact hh.ne hc dC rfl
theorem Ug(h:lB w B b v l):Calls prog 44 #[pT b 0] w λe w'=>e=.returned (.tuple #[])/\(Has w' b 58 #[pT b 0,v]/\w'.ownsRow B 5 1 v l.length (Lib.byteCells l))/\Turned (FB b v) w w'/\w'.heap.size=w.heap.size:=by obtain⟨p,hp,hh⟩:=h.has;have ho:=h.own;have hne:=h.ne;rcases hp with rfl|rfl;refine(Any.Builder_copyCheck_fresh (L:={Tryz.xi with}) yB.toX72 b w (hh.aJ 0 _ rfl) ?_ (hh.free 0)).mono ?_;have:=hh;unfold Has at this;simp[World.shape?,this];rfl;rintro e w' ⟨rfl,rfl⟩;refine⟨rfl,⟨hh.set 0 _,ho.kept (row:=some b) ⟨rfl,rfl,rfl,zcH,λk _ hk=>Below.heap_setCell _ _ _ _ (λe=>hk (by simp[e]))⟩ (.inr hne)⟩,(Turned.refl _ _).setCell _ _ (.inl (.inl rfl)),zcH⟩;refine(Any.Builder_copyCheck_used (L:={Tryz.xi with}) yB.toX72 b w (hh.aJ 0 _ rfl)).mono ?_;rintro e w' ⟨rfl,rfl⟩;exact⟨rfl,⟨hh,ho⟩,Turned.refl _ _,rfl⟩
theorem Turned.Ws{w w':aa}{b:Nat}{v:ae}(h:w.grownBy w' v.ownBlock):Turned (FB b v) w w':=⟨h.os,h.tape,h.output,h.size,λk hk hf=>h.block k hk (λe=>hf (.inr e.symm))⟩
theorem PY(h:lB w B b v l)(s:ay)(hlen:l.length+s.size<=100000000000)(hBw:B<=w.heap.size):Calls prog 17 #[pT b 0,.string s] w λe w'=>(∃r,e=.returned r)/\∃v',lB w' B b v' (l++s.data.toList)/\Turned (FB b v) w w':=by
 obtain⟨i0,hi,hz0,hz1,hz2⟩:=info_parts FQ;have HC:=hI (Ug h);have Je:=hI h.ne;have HLO:=hI h.low;clear h;go_enter func17,ntmps17;go_upto_region 2 with(go_at_call 44;refine HC.out.mono ?_;rintro e w1 ⟨rfl,⟨hk1,hown⟩,ht1,hsz⟩)
 have c0:=hk1.aJ 0 _ rfl;have c1:=hk1.aJ 1 v rfl;have hlt:=hk1.lt;have HK1:=hI hk1;have HT1:=hI ht1;clear hk1 ht1 HC;go_wp2_with (at_builtin;refine Lib.wpList_append_own_string _ rfl _ _ 33 9 rfl B 5 i0 underlying33 underlying9 hi hz0 hz1 hz2 _ _ _ rfl hown s rfl ?c3 ?c4 ?c5 ?_)
 case c3=>unfold maxLen;omega
 case c4=>omega
 case c5=>omega
 intro v' w2 hown' hgrow _;have hk2:Has w2 b 58 #[pT b 0,v]:=by show w2.heap[b]?=_;rw[hgrow.block b hlt (λe=>Je.out e.symm)];exact HK1.out
 have d0:=hk2.aJ 0 _ rfl;have d1:=hk2.aJ 1 v rfl;have f1:=hk2.free 1;have hl2:=hk2.lt;obtain⟨ao,n',cap,rfl⟩:∃ao n' cap,v'=.slice ao n' cap:=by rcases hown'.2 with⟨hv,_⟩|⟨g,cap,cur,hv,_⟩;exact⟨_,_,_,hv⟩;exact⟨_,_,_,hv⟩
 have HG:=hI (Turned.Ws (b:=b) hgrow);have HO:=hI hown';have xx:=hI hk2;clear hown' hgrow hk2 c0 c1;go_wp2;go_ret2;refine⟨⟨_,rfl⟩,.slice ao n' cap,⟨⟨_,.inr rfl,xx.out.set 1 _⟩,?_,HLO.out⟩,?_⟩
 ·have hne:Value.ownBlock (.slice ao n' cap)≠some b:=λe=>by obtain⟨_,cur,hc⟩:=iM HO.out e;exact xx.out.ne hc dC rfl
  have hkeep:(w2.setCell ⟨b,1,none⟩ (.slice ao n' cap)).ownsRow B 5 1 (.slice ao n' cap) (l.length+s.size) (Lib.byteCells l++Lib.strCells s):=HO.out.kept (row:=some b) ⟨rfl,rfl,rfl,zcH,λk _ hk=>Below.heap_setCell _ _ _ _ (λe=>hk (by simp[e]))⟩ (.inr hne);have e1:Lib.byteCells (l++s.data.toList)=Lib.byteCells l++Lib.strCells s:=by simp[Lib.byteCells,Lib.strCells]
  have e2:(l++s.data.toList).length=l.length+s.size:=by rw[bm,Array.length_toList];rfl
  rw[e1,e2];exact hkeep
 ·exact(HT1.out.trans HG.out λk _ hk=>hk).trans ((Turned.refl (FB b v) _).setCell ⟨b,1,none⟩ _ (.inl (.inl rfl))) λk _ hk=>hk
end
open Go.Shelf
attribute [local go_sem] Oper.semAt_some
theorem uG{k:Nat}{r:ay}(h:Lib.indexByte r.data.toList 10<0):dW k r=[r]:=by
 cases k with
 |zero=>rfl
 |succ k=>unfold dW;rw[if_pos h]
theorem Dp{k i:Nat}{r:ay}(h:Lib.indexByte r.data.toList 10=(i:Int)):dW (k+1) r=r.extract 0 i::dW k (r.extract (i+1) r.size):=by
 conv=>lhs;unfold dW
 rw[h,if_neg oM];rfl
theorem PZ{r:ay}{i:Nat}(h:Lib.indexByte r.data.toList 10=(i:Int)):i<r.size:=by have:=(Lib.indexByte_some h).1;have h2:=(aX.1 this).1;rw[Array.length_toList]at h2;exact h2
def Cs(sb:Nat)(w:aa):Nat:=match w.cell? ⟨sb,0,none⟩with|some (.string s)=>s.size|_=>0
theorem Kf(n l:Nat)(J:List ay->aa->Prop)(s:ay)(hz:s.size<=100000)(sb pb vb:Nat)(hne:pb≠sb)(W:aa)(h1:Has W sb 9 #[.string s])(h2:Has W pb 9 #[.string ⟨#[10]⟩])(h3:Has W vb 3 #[I 0])
 (hJ:∀pre W1 v,J pre W1->J pre (W1.setCell ⟨sb,0,none⟩ (.string v)))
 (hY:∀pre x W1,J pre W1->(∃rest,pre++x::rest=dW s.size s)->YieldAt Fence.wide (n-1) prog l #[.string x] W1 λe W'=>e=.returned (.bool true)/\J (pre++[x]) W'/\∀k,k=sb\/k=pb\/k=vb->W'.heap[k]?=W1.heap[k]?)
 (h0:J [] W):CallsIn Fence.wide n prog 63 #[.func (.yield l) #[] #[],pT pb 0,pT sb 0,pT vb 0] W λe W'=>(∃v,e=.returned v)/\J (dW s.size s) W':=by
 have Je:=hI hne;have HJ:=hI hJ;have HY:=hI hY;have H1:=hI h1;have H2:=hI h2;have H3:=hI h3;have q2:=h2.aJ 0 (.string ⟨#[10]⟩) rfl;have l2:=h2.lt;clear hJ hY h1 h3 h2;refine callsIn_of_wp func63 rfl trivial ?_ rfl;simp only[ntmps63,bR,bN,cX,Nat.reduceAdd,Nat.reduceSub,Array.replicate_succ,Array.replicate_zero,List.push_toArray,List.append_toArray,List.nil_append,List.cons_append]
 gi_wp2
 gi_loopw [7] (λ(_:ae) wr=>∃(pre:List ay)(k:Nat)(r:ay),r.size<=k/\pre++dW k r=dW s.size s/\r.size<=100000/\Hid (Has wr sb 9 #[.string r])/\Hid (Has wr pb 9 #[.string ⟨#[10]⟩])/\Hid (Has wr vb 3 #[I 0])/\J pre wr) (λ(_:ae) wr=>Cs sb wr)
 case atStart=>exact⟨[],s.size,s,aj _,rfl,hz,H1,H2,H3,h0⟩
 case round=>
  obtain⟨pre,k,r,pc,hpk,hrz,K1,K2,K3,hJs⟩:=hrel;have c1:=K1.out.aJ 0 (.string r) rfl;have c2:=K2.out.aJ 0 (.string ⟨#[10]⟩) rfl;have c3:=K3.out.aJ 0 (I 0) rfl;have g1:=K1.out.lt;have g2:=K2.out.lt;have g3:=K3.out.lt;have O7:=hI (Tryz.strings_Index_one r 10 wr);by_cases hneg:Lib.indexByte r.data.toList 10<0
  ·(have hin:Lib.indexByte r.data.toList 10= -1:=by have:=Lib.indexByte_ge r.data.toList 10;omega);rw[hin]at O7;obtain⟨fn,tmps,assign,body,hy,hR⟩:=HY.out pre r wr hJs ⟨[],by rw[<-hpk,uG hneg]⟩;have HE:Hid (pre++[r]=dW s.size s):=hI (by rw[<-hpk,uG hneg]);clear hneg hin hpk HY HJ
   gi_wp2_with (refine⟨trivial,λhd=>absurd hd dC,?_⟩;refine(callsIn_wide.2 O7.out).mono ?_;rintro e w2 ⟨rfl,rfl⟩)
   refine⟨λhd=>absurd hd dC,?_⟩;refine hR.mono ?_;rintro e W3 ⟨rfl,hJ3,hk3⟩
   gi_wp2
   go_end0;exact⟨⟨_,rfl⟩,HE.out▸hJ3⟩
  ·obtain⟨i,hi⟩:∃i:Nat,Lib.indexByte r.data.toList 10=(i:Int):=⟨(Lib.indexByte r.data.toList 10).toNat,oM⟩;have hlt:=PZ hi;rw[hi]at O7;obtain⟨k',rfl⟩:∃k',k=k'+1:=⟨k-1,oM⟩;rw[Dp hi]at hpk;obtain⟨fn,tmps,assign,body,hy,hR⟩:=HY.out pre (r.extract 0 i) wr hJs ⟨_,hpk⟩;have HPK:Hid ((pre++[r.extract 0 i])++dW k' (r.extract (i+1) r.size)=dW s.size s):=hI (by rw[<-hpk];simp);have hi0:¬(i:Int)<0:=oM;have hi1:(i:Int)<=(r.size:Int):=oM;have hi2:(i:Int)+1<=(r.size:Int):=oM;have abp:r.size<=100000:=hrz;have pM:Hid (i<r.size/\r.size<=k'+1/\r.size<=100000):=hI ⟨hlt,pc,hrz⟩;clear hneg hi hpk pc
   gi_wp2_with (refine⟨trivial,λhd=>absurd hd dC,?_⟩;refine(callsIn_wide.2 O7.out).mono ?_;rintro e w2 ⟨rfl,rfl⟩)
   refine⟨λhd=>absurd hd dC,?_⟩;refine hR.mono ?_;rintro e W3 ⟨rfl,hJ3,hk3⟩;have J1:Has W3 sb 9 #[.string r]:=(hk3 sb (.inl rfl)).trans K1.out;have J2:Has W3 pb 9 #[.string ⟨#[10]⟩]:=(hk3 pb (.inr (.inl rfl))).trans K2.out;have J3:Has W3 vb 3 #[I 0]:=(hk3 vb (.inr (.inr rfl))).trans K3.out;have d1:=J1.aJ 0 (.string r) rfl;have d2:=J2.aJ 0 (.string ⟨#[10]⟩) rfl;have f1:=J1.free 0;have m1:=J1.lt;have m2:=J2.lt;have P1:=hI J1;have P2:=hI J2;have P3:=hI J3;have HJ3:=hI (HJ.out _ _ (r.extract (i+1) r.size) hJ3);clear J1 J2 J3 hk3 hJ3 c1 c2 c3
   gi_wp2
   have hset:Has (W3.setCell ⟨sb,0,none⟩ (.string (r.extract (i+1) r.size))) sb 9 #[.string (r.extract (i+1) r.size)]:=P1.out.set 0 _;(have hsz:(r.extract (i+1) r.size).size=r.size-(i+1):=by rw[ByteArray.size_extract,Nat.min_self]);obtain⟨b1,b2,b3⟩:=pM.out;refine⟨⟨pre++[r.extract 0 i],k',r.extract (i+1) r.size,by rw[hsz];omega,HPK.out,by rw[hsz];omega,hI hset,hI (P2.out.far Je.out _),hI (P3.out.far (P3.out.ne P1.out dC) _),HJ3.out⟩,?_⟩;(have e1:Cs sb (W3.setCell ⟨sb,0,none⟩ (.string (r.extract (i+1) r.size)))=(r.extract (i+1) r.size).size:=by unfold Cs;rw[hset.aJ 0 (.string (r.extract (i+1) r.size)) rfl]);(have e2:Cs sb w2=r.size:=by unfold Cs;rw[K1.out.aJ 0 (.string r) rfl]);rw[e1,e2,hsz];omega
structure kD(N sb:Nat)(W W':aa):Prop where
 os:W'.os=W.os
 tape:W'.tape=W.tape
 output:W'.output=W.output
 size:W.heap.size<=W'.heap.size
 block:∀k,k<W.heap.size->k≠sb->W'.heap[k]?=W.heap[k]?\/(N<=k/\∃o,W.heap[k]?=some o/\o.isCells=false)
 box:∀u,Has W sb 9 #[u]->∃u',Has W' sb 9 #[u']
theorem kD.below{N sb B:Nat}{W W':aa}(h:kD N sb W W')(h1:B<=N)(h2:B<=sb)(h3:B<=W.heap.size):Below B W W':=⟨h.os,h.tape,h.output,h.size,λk hk=>by
 rcases h.block k oM oM with e|⟨h4,_⟩;exact e
 ·omega⟩
theorem kD.has{N sb:Nat}{W W':aa}(h:kD N sb W W'){b:Nat}{t:aw}{cs:bw}(hh:Has W b t cs)(hb:b≠sb):Has W' b t cs:=by rcases h.block b hh.lt hb with e|⟨_,o,e,ho⟩;exact e.trans hh;unfold Has at hh;rw[hh]at e;injection e with e;rw[<-e]at ho;cases ho
theorem kD.alloc(N sb:Nat)(W:aa)(o:Obj):kD N sb W (W.alloc o):=⟨rfl,rfl,rfl,sM,λk hk _=>.inl (Below.heap_alloc _ _ _ hk),λu hu=>⟨u,hu.alloc _⟩⟩
theorem kD.putObj{N sb:Nat}{W:aa}{l:Nat}{o:Obj}(o':Obj)(hN:N<=l)(hl:W.heap[l]?=some o)(ho:o.isCells=false):kD N sb W (W.putObj l o'):=⟨rfl,rfl,rfl,sM,λk _ _=>by
 by_cases e:k=l;subst e;exact .inr ⟨hN,o,hl,ho⟩
 ·exact .inl (World.putObj_heap_other e),λu hu=>⟨u,by
 have e:sb≠l:=λe=>by subst e;unfold Has at hu;rw[hu]at hl;injection hl with hl;rw[<-hl]at ho;cases ho
 exact(World.putObj_heap_other e).trans hu⟩⟩
theorem kD.setCell(N sb:Nat)(W:aa)(v:ae):kD N sb W (W.setCell ⟨sb,0,none⟩ v):=⟨rfl,rfl,rfl,zcH,λk _ hk=>.inl (Below.heap_setCell _ _ _ _ hk),λu hu=>⟨v,hu.set 0 v⟩⟩
theorem range_split{n:Nat}(Mi:1<=n){g:Operand}{ps:Array Tmp}{assign body:Code}{Q:Exit->Act->aa->Prop}{a:Act}{w:aa}(s:ay)(hz:s.size<=100000)(sb pb vb:Nat)(hne:pb≠sb)
 (hg:a.eval g=.func (.func 63) #[] #[pT pb 0,pT sb 0,pT vb 0])(hps:ps.size=1)
 (b1:Has w sb 9 #[.string s])(b2:Has w pb 9 #[.string ⟨#[10]⟩])(b3:Has w vb 3 #[I 0])
 (I:List ay->aa->Prop)(hI:∀pre W W',I pre W->kD w.heap.size sb W W'->I pre W')(h0:I [] w)(a₁:ay->Act)
 (hassign:∀(l:Nat)(x:ay)(W:aa)(K:Act->aa->Prop),K (a₁ x) W->
  assign.wpIn (Fence.wide.inRound l) (n-1-1) prog (Exit.then K (λ_ _ _=>False)) {tmps:=(ps.zip #[.string x]).foldl (λt (p,v)=>t.setIfInBounds p v) a.tmps,defers:=[]} W)
 (hbody:∀(l:Nat)(pre:List ay)(x:ay)(W:aa),I pre W->(∃rest,pre++x::rest=dW s.size s)->
  body.wpIn (Fence.wide.inRound l) (n-1-1) prog (λe _ W'=>e=.normal/\KeepsOthers W W'/\(∀k,k=sb\/k=pb\/k=vb->W'.heap[k]?=W.heap[k]?)/\I (pre++[x]) W') (a₁ x) W)
 (hdone:∀(D:Nat)(W:aa),w.heap.size<=D->I (dW s.size s) W->W.heap[D]?=some (.deferred (some []))->Q .normal {a with defers:={target:=.collected D,args:=#[]}::a.defers} W):
 (Code.rangeFunc g ps assign body).wpIn Fence.wide n prog Q a w:=by
 have g1:=b1.lt;have g2:=b2.lt;have g3:=b3.lt;refine wpIn_rangeFunc ?_;intro fn hfn;obtain⟨rec,hrec⟩:∃rec:LoopState->Option Code->Loop,rec=λst pe=>{state:=st,pending:=pe,fn,tmps:=a.tmps,params:=ps,assign,body,defers:=w.heap.size}:=⟨_,rfl⟩;obtain⟨W1,hW1⟩:∃W1,(w.alloc (.deferred (some []))).alloc (.loop (rec .ready none))=W1:=⟨_,rfl⟩;have hL1:W1.heap[w.heap.size+1]?=some (.loop (rec .ready none)):=by rw[<-hW1];have:=World.alloc_heap_new (w.alloc (.deferred (some []))) (.loop (rec .ready none));rwa[World.size_alloc]at this
 have hK1:W1.heap[w.heap.size]?=some (.deferred (some [])):=by rw[<-hW1];exact(Below.heap_alloc _ _ _ sM).trans (World.alloc_heap_new w _)
 have hI1:I [] W1:=by rw[<-hW1];exact hI _ _ _ (hI _ _ _ h0 (kD.alloc _ _ _ _)) (kD.alloc _ _ _ _)
 have hc1:∀{b:Nat}{t:aw}{cs:bw},Has w b t cs->Has W1 b t cs:=λhh=>by rw[<-hW1];exact(hh.alloc _).alloc _
 refine⟨w.heap.size+1,[{target:=.collected w.heap.size,args:=#[]}],W1,{target:=.fn (.func 63) #[pT pb 0,pT sb 0,pT vb 0],args:=#[.func (.yield (w.heap.size+1)) #[] #[]]},W1,63,#[.func (.yield (w.heap.size+1)) #[] #[]]++ #[pT pb 0,pT sb 0,pT vb 0],W1,?_,?_,?_,?_,λ_=>Mi,?_⟩;rw[<-hW1,hrec];exact run_enterLoop_outer _ _ _ _ _
 ·simp only[resolve,hg];simp[go_sem]
 ·intro f' _;trivial
 ·simp[invoke,go_sem]
 ·refine(Kf (n-1) (w.heap.size+1)
   (λpre W=>I pre W/\W.heap[w.heap.size+1]?=some (.loop (rec .ready none))/\W.heap[w.heap.size]?=some (.deferred (some [])))
   s hz sb pb vb hne W1 (hc1 b1) (hc1 b2) (hc1 b3) ?_ ?_ ⟨hI1,hL1,hK1⟩).mono ?_
  ·rintro pre W v ⟨hi,hl,hk⟩;exact⟨hI _ _ _ hi (kD.setCell _ _ _ _),(Below.heap_setCell _ _ _ _ (by show w.heap.size+1≠sb;omega)).trans hl,(Below.heap_setCell _ _ _ _ (by show w.heap.size≠sb;omega)).trans hk⟩
  ·rintro pre x W ⟨hi,hl,hk⟩ hrest;have hlt:w.heap.size+1<W.heap.size:=(az.1 hl).1;have hy:=run_yield (P:=prog) (args:=#[.string x]) hl (by rw[hrec];simp[hps]);rw[hrec]at hy;refine⟨fn,_,assign,body,hy,roundIn_of_wpIn hfn (hassign _ x W _ ⟨_,run_beginRound hl (by rw[hrec]),?_⟩)⟩;have hl2:(W.putObj (w.heap.size+1) (.loop {rec .ready none with state:=.busy})).heap[w.heap.size+1]?=some (.loop {rec .ready none with state:=.busy}):=World.putObj_heap_same hlt;have hk2:(W.putObj (w.heap.size+1) (.loop {rec .ready none with state:=.busy})).heap[w.heap.size]?=some (.deferred (some [])):=(World.putObj_heap_other oM).trans hk;refine wpIn_mono (hbody _ pre x _ (hI _ _ _ hi (kD.putObj _ oM hl rfl)) hrest) ?_;rintro e a3 W3 ⟨rfl,hk3,hkp3,hi3⟩;have hl3:=hk3.same _ _ hl2 rfl;have hr:=run_endRound (P:=prog) none hl3;have hq:∀k,k=sb\/k=pb\/k=vb->k≠w.heap.size+1:=λk hk=>oM;refine⟨.bool true,W3.putObj (w.heap.size+1) (.loop (rec .ready none)),by rw[hrec]at hr⊢;exact hr,rfl,⟨hI _ _ _ hi3 (kD.putObj _ oM hl3 rfl),World.putObj_heap_same (az.1 hl3).1,(World.putObj_heap_other oM).trans (hk3.same _ _ hk2 rfl)⟩,λk hk=>?_⟩;rw[World.putObj_heap_other (hq k hk),hkp3 k hk,World.putObj_heap_other (hq k hk)]
  ·rintro e W2 ⟨⟨v,rfl⟩,hi,hl,hk⟩;exact⟨none,_,by have:=run_endLoop (P:=prog) hl (by rw[hrec];simp);rw[hrec]at this;exact this,hdone _ _ oM (hI _ _ _ hi (kD.putObj _ oM hl rfl)) ((World.putObj_heap_other oM).trans hk)⟩
end Go.Proofs.YtdhekhlmdefcnaaGreatDoor
namespace Go.Proofs.YtdhekhlmdefcnaaGreatDoor
open Go.RowKit
def ez(s:Sys):Prop:=∀gm∈s.way,∃t,gm.bytes=0::t
def Wt(v:ae)(l:By):Prop:=v.ownBlock=none\/∃c t,l=c::t/\c≠0
def buT(t:aw):Bool:=t==58||t==5
section
variable {w w':aa}{B B' b g:Nat}{v vr:ae}{l:By}{x:fV}{d:Dk}
theorem FB.own(hb:lB w B' b v l):∀k,FB b v k->Own buT w k:=λk hk=>by rcases hk with rfl|hk;obtain⟨p,_,hh⟩:=hb.has;exact⟨_,_,hh,rfl⟩;obtain⟨_,cur,hh⟩:=iM hb.own hk;exact⟨_,_,hh,rfl⟩
theorem Kg(hb:lB w B' b v l)(hl:Wt v l){u:ae}{t:By}(hu:nU w u (0::t))(ht:Turned (FB b v) w w'):nU w' u (0::t):=by obtain⟨A,c,h1,h2,h3⟩:=hu;refine⟨A,c,h1,h2,λhn=>?_⟩;obtain⟨k,cur,e,hh,htk⟩:=h3 hn;refine⟨k,cur,e,hh.turned ht λhf=>?_,htk⟩;rcases hf with rfl|hf;obtain⟨p,_,hp⟩:=hb.has;exact hp.ne hh dC rfl;rcases hl with hl|⟨c0,t0,rfl,hc0⟩;rw[hl]at hf;cases hf;rcases hb.own.2 with⟨rfl,_⟩|⟨k',cap,cur',rfl,_,hh',_,_,_,aaZ⟩;cases hf;(have:k'=k:=by simpa[Value.ownBlock]using hf);subst this;(have ec:cur'=cur:=by unfold Has at hh;have:=hh'.symm.trans hh;injection this with this;injection this);subst ec;(have e0:cur'.toList[0]?=some (.int .u8 (c0.toNat:Int)):=by (have:(cur'.toList.take ((c0::t0).length*1))[0]?=some (.int .u8 (c0.toNat:Int)):=by rw[aaZ];rfl);rwa[List.getElem?_take,if_pos sM]at this);(have e1:cur'.toList[0]?=(bytes (0::t))[0]?:=by rw[<-htk,List.getElem?_take,if_pos sM]);rw[e0]at e1;have e2:(bytes (0::t))[0]?=some (.int .u8 0):=rfl;rw[e2]at e1;injection e1 with e1;injection e1 with _ e1;apply hc0;have:c0.toNat=0:=oM;exact UInt8.toNat_inj.1 this
theorem dV.write(h:dV w B g x vr d)(hz:ez d.s)(hb:lB w B' b v l)(hl:Wt v l)(ht:Turned (FB b v) w w'):dV w' B g x vr d:=by have hF:=FB.own hb;refine⟨h.has.iN ht hF rfl,h.routes.keep λ_ _ hh=>hh.iN ht hF rfl,?_,h.low,h.ok,aS h.hB ht.size⟩;have s:=h.sys;refine⟨s.has.iN ht hF rfl,iO s.routes ht hF rfl,s.n3,λk hk=>⟨(s.fP k hk).has.iN ht hF rfl,(s.fP k hk).core.iN ht hF rfl rfl⟩,s.apart,⟨s.vo.has.iN ht hF rfl,iO s.vo.own ht hF rfl,s.vo.low⟩,iO s.way ht hF rfl,s.len,λi gm u e1 e2=>?_,s.low,s.uD⟩;obtain⟨t,et⟩:=hz gm (aR e1);have:=s.bytes i gm u e1 e2;rw[et]at this⊢;exact Kg hb hl this ht
theorem dV.Kh{N sb:Nat}{t:ae}(h:dV w B g x vr d)(hs:Has w sb 9 #[t])(m:kD N sb w w'):dV w' B g x vr d:=by
 have hk:∀{k:Nat}{ty:aw}{cs:bw},Has w k ty cs->(ty==9)=false->Has w' k ty cs:=λhh hn=>m.has hh λe=>by exact zcD
 have ok:∀{base:Nat}{e:aw}{size n:Nat}{v:ae}{xs:List ae},w.ownsRow base e size v n xs->(e==9)=false->w'.ownsRow base e size v n xs:=λho hn=>lK ho λg _ _ hh=>(show w'.heap[g]?=w.heap[g]? from(hk hh hn).trans hh.symm);refine⟨hk h.has rfl,h.routes.keep λ_ _ hh=>hk hh rfl,?_,h.low,h.ok,aS h.hB m.size⟩;have s:=h.sys;refine⟨hk s.has rfl,ok s.routes rfl,s.n3,λk hkk=>⟨hk (s.fP k hkk).has rfl,?_⟩,s.apart,⟨hk s.vo.has rfl,ok s.vo.own rfl,s.vo.low⟩,ok s.way rfl,s.len,λi gm u e1 e2=>(s.bytes i gm u e1 e2).keep λ_ _ hh=>hk hh rfl,s.low,s.uD⟩;obtain⟨v1,v2,a1,a2,a3⟩:=(s.fP k hkk).core;exact⟨v1,v2,hk a1 rfl,ok a2 rfl,ok a3 rfl⟩
theorem lB.Kh{N sb:Nat}{t:ae}(h:lB w B b v l)(hs:Has w sb 9 #[t])(m:kD N sb w w'):lB w' B b v l:=by
 have hk:∀{k:Nat}{ty:aw}{cs:bw},Has w k ty cs->(ty==9)=false->Has w' k ty cs:=λhh hn=>m.has hh λe=>by exact zcD
 obtain⟨p,hp,hh⟩:=h.has;exact⟨⟨p,hp,hk hh rfl⟩,lK h.own λg _ _ hh=>(show w'.heap[g]?=w.heap[g]? from(hk hh rfl).trans hh.symm),h.low⟩
theorem lB.moved{x':fV}(h:lB w B b v l)(hd:dV w B' g x vr d)(m:lq w w' g x x'):lB w' B b v l:=by
 have hF:∀k,FD g x k->Own (λt=>t==54||B5 t) w k:=λk hk=>by rcases hk with rfl|hk;exact⟨_,_,hd.has,rfl⟩;exact zcI
 obtain⟨p,hp,hh⟩:=h.has;exact⟨⟨p,hp,hh.iN m.turned hF rfl⟩,iO h.own m.turned hF rfl,h.low⟩
end
open Go.Proofs.Tryz
theorem Wu{w:aa}{B b:Nat}{v:ae}{l:By}(h:lB w B b v l)(h0:l≠[]):Calls prog 19 #[pT b 0] w λe w'=>e=.returned (.string ⟨l.toArray⟩)/\∃g n,B<=g/\(∃t cs,Has w g t cs)/\w'=w.drew.freeze ⟨g,0,none⟩ n:=by
 have hl0:l.length≠0:=by simpa using h0
 obtain⟨p,_,hbk⟩:=h.has;have hown:=h.own;obtain⟨g,cap,cur,rfl,hbg,hg,hnc,hcm,hcs,htake⟩:∃g cap cur,v=.slice (some ⟨g,0,none⟩) l.length cap/\B<=g/\w.heap[g]?=some (.cells cur 5 (0,0))/\l.length<=cap/\cap<=maxLen/\cur.size=cap*1/\cur.toList.take (l.length*1)=Lib.byteCells l:=by rcases hown.2 with⟨_,hz⟩|⟨g,cap,cur,hv,r⟩;exact absurd hz hl0;exact⟨g,cap,cur,hv,r⟩
 have c1:w.drew.cell? ⟨b,1,none⟩=some (.slice (some ⟨g,0,none⟩) l.length cap):=hbk.aJ 1 _ rfl;have hSD:(Builtin.unsafeSliceData_ #[33] 95 #[.slice (some ⟨g,0,none⟩) l.length cap]).run prog w.drew=.ok (pT g 0) w.drew:=
  Lib.run_unsafeSliceData_row _ _ _ _ _ _ oM
 have hUS:(Builtin.unsafeString_ #[95,3] 9 #[pT g 0,.int .i64 l.length]).run prog w.drew=.ok (.string ⟨l.toArray⟩) (w.drew.freeze ⟨g,0,none⟩ l.length):=by refine Lib.run_unsafeString_row w.drew 95 3 9 5 underlying95 yB.cellsByte g cur.size (by have hg':w.drew.heap[g]?=some (.cells cur 5 (0,0)):=hg;simp[World.shape?,hg']) l h0 oM (by unfold maxLen at hcm;omega) ?_;intro j x hx;have:=hown.cells (g:=g) rfl j (.int .u8 x.toNat) (by simp[Lib.byteCells,hx]);exact this
 have HG:Hid (B<=g/\∃t cs,Has w g t cs):=hI ⟨hbg,_,_,hg⟩;have hlb:=hbk.lt;clear h hbk hown hg htake hbg;go_enter func19,ntmps19;go_wp2;go_region;all_goals(go_wp2;go_ret;exact⟨rfl,g,_,HG.out.1,HG.out.2,rfl⟩)
open Go.Shelf
attribute [local go_sem] Oper.semAt_some
theorem ma(d:Dk)(l:List ay)(s:ay):eh d (l++[s])=((dT (eh d l).1 s).1,(eh d l).2++((dT (eh d l).1 s).2++[10])):=by unfold eh;rw[List.foldl_append];rfl
theorem EH:MM.Ok:=⟨dC,dC,dC,dC,dC,dC,dC,dC⟩
def NM:List ay:=[⟨#[49,48]⟩,⟨#[50]⟩,⟨#[52]⟩,⟨#[51]⟩,⟨#[49,50]⟩,⟨#[54]⟩]
theorem GG:numsOf NM (-4)=some [10,2,4,3,12,6]:=kR
theorem P0(t:ay)(w:aa):Calls prog 42 #[.string t,.string ⟨#[10]⟩,I 0] w λe w'=>e=.returned (.func (.func 63) #[] #[pT (w.heap.size+1) 0,pT w.heap.size 0,pT (w.heap.size+2) 0])/\w'=((w.alloc (.cells #[.string t] 9)).alloc (.cells #[.string ⟨#[10]⟩] 9)).alloc (.cells #[I 0] 3):=by have Ri:∀(fn:Fn)(first cap:bw)(w:aa),(Instr.makeFunc fn first cap).run prog w=.ok (.func fn first cap) w:=λ_ _ _ _=>rfl;go_enter func42,ntmps42;go_wp2;go_ret;exact⟨sM,rfl⟩
theorem P4(t:ay)(w:aa):Calls prog 15 #[.string t,.string ⟨#[10]⟩] w λe w'=>e=.returned (.func (.func 63) #[] #[pT (w.heap.size+1) 0,pT w.heap.size 0,pT (w.heap.size+2) 0])/\w'=((w.alloc (.cells #[.string t] 9)).alloc (.cells #[.string ⟨#[10]⟩] 9)).alloc (.cells #[I 0] 3):=by
 go_enter func15,ntmps15;go_wp2_with (go_at_call 42;refine(P0 t w).mono ?_;rintro e w' ⟨rfl,rfl⟩)
 go_ret;exact⟨rfl,rfl⟩
theorem xy:∀(k:Nat)(s:ay),∀y∈dW k s,y.size<=s.size
 |0,s,y,hy=>by
  have:y=s:=by simpa[dW]using hy
  rw[this];exact aj _
 |k+1,s,y,hy=>by unfold dW at hy;split at hy;(have:y=s:=by simpa using hy);rw[this];exact aj _;rcases List.mem_cons.1 hy with rfl|hy;rw[ByteArray.size_extract];omega;have:=xy k _ y hy;rw[ByteArray.size_extract]at this;omega
theorem Ct(s:ay){n:Nat}(h:s.size<=n):(⟨(Lib.trimSuffix s.data.toList [10]).toArray⟩:ay).size<=n:=by
 show(Lib.trimSuffix s.data.toList [10]).toArray.size<=n;have e:s.size=s.data.toList.length:=by rw[Array.length_toList];rfl
 unfold Lib.trimSuffix;split<;>simp<;>simp at e<;>omega
theorem pS{F:cD}{W W':aa}(ht:Turned F W W')(hF:∀k,F k->∃t cs,Has W k t cs):KeepsOthers W W':=⟨ht.size,λk o hk ho=>(ht.block k (az.1 hk).1 λhf=>by
 obtain⟨t,cs,hh⟩:=hF k hf;unfold Has at hh;rw[hh]at hk;injection hk with hk;rw[<-hk]at ho;cases ho).trans hk⟩
theorem Ki:∀(k:Nat)(s:ay),dW k s≠[]
 |0,_=>by simp[dW]
 |k+1,s=>by unfold dW;split<;>simp
theorem MN(d:Dk){l:List ay}(h:l≠[]):(eh d l).2≠[]:=by rw[<-List.dropLast_concat_getLast h,ma];simp
theorem Dq{W:aa}{gg D:Nat}{t:aw}{cs:bw}{o:Obj}(hh:Has W gg t cs)(n:Nat)(hK:W.heap[D]?=some o)(ho:o.isCells=false):(W.drew.freeze ⟨gg,0,none⟩ n).heap[D]?=some o:=by
 have hne:gg≠D:=λe=>by subst e;unfold Has at hh;rw[hh]at hK;injection hK with hK;rw[<-hK]at ho;cases ho
 unfold World.freeze;split;exact hK;show(W.heap.modify gg _)[D]?=some o;rw[Array.getElem?_modify,if_neg hne];exact hK
structure MO(w:aa)(g bb:Nat)(pre:List ay)(W:aa):Prop where
 J7:∃x vr,dV W g g x vr (eh dL pre).1
 bu:∃v,lB W g bb v (eh dL pre).2/\Wt v (eh dL pre).2
 first:∀c t,(eh dL pre).2=c::t->c≠0
 dv:Has W (g+1) 48 #[pT g 0]
 sbx:∃u,Has W (bb+1) 9 #[u]
 Wv:Has W (bb+1+1) 9 #[.string ⟨#[10]⟩]
 Ww:Has W (bb+1+2) 3 #[I 0]
 low:Below g w W
 zX:Std W
theorem MO.Kh{w W W':aa}{g bb N:Nat}{pre:List ay}(h:MO w g bb pre W)(m:kD N (bb+1) W W')(hN:g<=N)(hg:g+1<bb)(Zm:9<=g):MO w g bb pre W':=by obtain⟨u,hu⟩:=h.sbx;obtain⟨x,vr,hd⟩:=h.J7;obtain⟨v,hb,ho⟩:=h.bu;have hlo:Below g W W':=m.below hN oM (by have:=h.dv.lt;omega);exact⟨⟨x,vr,hd.Kh hu m⟩,⟨v,hb.Kh hu m,ho⟩,h.first,m.has h.dv oM,m.box u hu,m.has h.Wv oM,m.has h.Ww oM,h.low.trans hlo,h.zX.below Zm hlo⟩
theorem MP{w W:aa}{g bb:Nat}{pre:List ay}{y:ay}{x1:fV}{vr1 v:ae}(h:MO w g bb pre W)(hd:dV W g g x1 vr1 (eh dL pre).1)(hb:lB W g bb v (eh dL pre).2)(ho:Wt v (eh dL pre).2)(hg:g+1<bb)(Zm:9<=g)
 (hz:ez (dT (eh dL pre).1 y).1.s)(hc:∀c u,(dT (eh dL pre).1 y).2=c::u->c≠0)(TA:ay)(w3 w4:aa)(x':fV)(vx v':ae)(Ub:TA.data.toList=(dT (eh dL pre).1 y).2)
 (hd3:dV w3 g g x' vx (dT (eh dL pre).1 y).1)(GH:lq W w3 g x1 x')(hb4:lB w4 g bb v' ((eh dL pre).2++(TA++⟨#[10]⟩).data.toList))(MQ:Turned (FB bb v) w3 w4):
 Exit.normal=.normal/\KeepsOthers W w4/\(∀k,k=bb+1\/k=bb+1+1\/k=bb+1+2->w4.heap[k]?=W.heap[k]?)/\MO w g bb (pre++[y]) w4:=by
 have hF1:∀k,FD g x1 k->Own (λt=>t==54||B5 t) W k:=λk hk=>by rcases hk with rfl|hk;exact⟨_,_,hd.has,rfl⟩;exact zcI
 have hb3:=hb.moved hd GH;have hF2:=FB.own hb3;have hkeep:∀{k:Nat}{t:aw}{cs:bw},Has W k t cs->(t==54||B5 t)=false->buT t=false->Has w4 k t cs:=λhh h1 h2=>(hh.iN GH.turned hF1 h1).iN MQ hF2 h2;obtain⟨u,hu⟩:=h.sbx;have hbw:Below g W w4:=(GH.below hd).trans (MQ.below (λk hk=>by
  rcases hk with rfl|hk;omega
  ·exact(iM hb3.own hk).1) (aS hd.hB GH.turned.size))
 have hq:∃c t,(eh dL (pre++[y])).2=c::t/\c≠0:=by
  rw[ma];show∃c t,(eh dL pre).2++((dT (eh dL pre).1 y).2++[10])=c::t/\c≠0;cases hl:(eh dL pre).2 with
  |cons c t=>refine⟨c,t++((dT (eh dL pre).1 y).2++[10]),rfl,?_⟩;exact h.first c t hl
  |nil=>
   cases ha:(dT (eh dL pre).1 y).2 with
   |nil=>exact⟨10,[],rfl,dC⟩
   |cons c t=>exact⟨c,t++[10],rfl,hc c t ha⟩
 refine⟨rfl,(pS GH.turned λk hk=>?_).trans (pS MQ λk hk=>?_),λk hk=>?_,⟨x',vx,?_⟩,⟨v',?_,.inr hq⟩,(λc t e=>by obtain⟨c',t',e',hc'⟩:=hq;rw[e']at e;injection e with e;subst e;exact hc'),hkeep h.dv rfl rfl,⟨u,hkeep hu rfl rfl⟩,hkeep h.Wv rfl rfl,hkeep h.Ww rfl rfl,h.low.trans hbw,h.zX.below Zm hbw⟩;obtain⟨t,cs,hh,_⟩:=hF1 k hk;exact⟨t,cs,hh⟩;obtain⟨t,cs,hh,_⟩:=hF2 k hk;exact⟨t,cs,hh⟩;rcases hk with rfl|rfl|rfl;exact(hkeep hu rfl rfl).trans hu.symm;exact(hkeep h.Wv rfl rfl).trans h.Wv.symm;exact(hkeep h.Ww rfl rfl).trans h.Ww.symm;rw[ma];exact hd3.write hz hb3 ho MQ
 ·rw[ma];have e:(TA++(⟨#[10]⟩:ay)).data.toList=(dT (eh dL pre).1 y).2++[10]:=by rw[ByteArray.data_append,cV,Ub]
  rw[<-e];exact hb4
theorem Kj(text:ay)(hz:text.size<=20000)(w:aa)(hs:Std w)(hfi:∀pre rest,pre++rest=iD text->(eh dL pre).2.length<=90000000000/\∃T,T<=9900000000/\bL T (eh dL pre).1.s/\ez (eh dL pre).1.s)(han:∀pre x rest,pre++x::rest=iD text->(dT (eh dL pre).1 x).2.length<=1000000/\∀c u,(dT (eh dL pre).1 x).2=c::u->c≠0):Calls prog 8 #[.string text] w λe w'=>e=.returned (.string ⟨(eh dL (iD text)).2.toArray⟩)/\Below w.heap.size w w':=by
 have hzi:¬(20000:Int)<(text.size:Int):=oM;obtain⟨wa,Mc⟩:∃wa,wa=(((w.alloc (.cells #[I 0,.slice none 0 0,I 0,.pointer none] 54)).alloc (.cells #[pT w.heap.size 0] 48)).alloc (.cells #[.string ⟨#[49,48]⟩,.string ⟨#[50]⟩,.string ⟨#[52]⟩,.string ⟨#[51]⟩,.string ⟨#[49,50]⟩,.string ⟨#[54]⟩] 9)):=⟨_,rfl⟩;have hba:Below w.heap.size w wa:=by rw[Mc];exact(((Below.refl _ _).alloc (aj _) _).alloc sM _).alloc (by simp;omega) _
 have kg:Has wa w.heap.size 54 #[I 0,.slice none 0 0,I 0,.pointer none]:=by rw[Mc];exact((Has.new _ _ _).alloc _).alloc _
 have kd:Has wa (w.heap.size+1) 48 #[pT w.heap.size 0]:=by rw[Mc];exact(Has.new' _ _ _ _ sM).alloc _
 have kw:Has wa (w.heap.size+1+1) 9 #[.string ⟨#[49,48]⟩,.string ⟨#[50]⟩,.string ⟨#[52]⟩,.string ⟨#[51]⟩,.string ⟨#[49,50]⟩,.string ⟨#[54]⟩]:=by rw[Mc];exact Has.new' _ _ _ _ sM
 have hwd:Words wa (some ⟨w.heap.size+1+1,0,none⟩) NM:=⟨dC,dC,Reads.FJ kw kw.lt⟩;have hsa:Std wa:=hs.after hba;have Pc:=hI (EG MM (B:=w.heap.size) kg (aj _) hba.size (hI ⟨EH,rfl,rfl,rfl⟩) (hI ⟨dC,dC⟩) (hI GG) (hI hwd) 6 (hI hsa));have I8:=hI hsa;have Pp:=hI hba;have HNG:=hI hs.size;have HKD:=hI kd;have qO:=hI hfi;have Yp:=hI han;clear hba kg kd kw hwd hsa hs hfi han;refine(callsIn_wide (n:=4)).1 ?_;refine callsIn_of_wp_marks func8 rfl trivial ?_ rfl;simp only[ntmps8,bR,bN,cX,Nat.reduceAdd,Nat.reduceSub,Array.replicate_succ,Array.replicate_zero,List.push_toArray,List.append_toArray,List.nil_append,List.cons_append]
 gi_wp2_with fail
 refine⟨trivial,?_⟩;rw[<-Mc];refine(callsIn_wide.2 Pc.out).mono ?_;rintro e w2 ⟨rfl,x,vr,hdk,ht,hfs⟩;have HDK:=hI hdk;have HB2:Hid (Below w.heap.size w w2):=hI (Pp.out.trans (ht.below (λk hk=>oM) Pp.out.size));have HS2:Hid (Std w2):=hI (I8.out.below HNG.out (ht.below (B:=w.heap.size) (λk hk=>oM) Pp.out.size));have Xj:Hid (Has w2 (w.heap.size+1) 48 #[pT w.heap.size 0]):=hI (HKD.out.turned ht oM);clear hdk ht hfs Mc Pc HKD I8 Pp;generalize hG:w.heap.size=g at*;have HG:=hI hG;clear hG;have HTS:=λwx=>hI (Tryz.strings_TrimSuffix text ⟨#[10]⟩ wx oM)
 gi_wp2_with (first
  |(refine⟨trivial,?_⟩;gi_at_call 16;refine(callsIn_wide.2 (HTS _).out).mono ?_;rintro e w3 ⟨rfl,rfl⟩)
  |(refine⟨trivial,?_⟩;gi_at_call 15;refine(callsIn_wide.2 (P4 _ _)).mono ?_;rintro e w4 ⟨rfl,rfl⟩))
 have hsz2:(⟨(Lib.trimSuffix text.data.toList [10]).toArray⟩:ay).size<=20000:=Ct text hz;obtain⟨wL,MR⟩:∃wL,wL=(((w2.alloc (.cells #[.pointer none,.slice none 0 0] 58)).alloc (.cells #[.string ⟨(Lib.trimSuffix text.data.toList [10]).toArray⟩] 9)).alloc (.cells #[.string ⟨#[10]⟩] 9)).alloc (.cells #[I 0] 3):=⟨_,rfl⟩;have kB:Has wL w2.heap.size 58 #[.pointer none,.slice none 0 0]:=by rw[MR];exact(((Has.new _ _ _).alloc _).alloc _).alloc _
 have kS:Has wL (w2.heap.size+1) 9 #[.string ⟨(Lib.trimSuffix text.data.toList [10]).toArray⟩]:=by rw[MR];exact((Has.new' _ _ _ _ sM).alloc _).alloc _
 have kP:Has wL (w2.heap.size+1+1) 9 #[.string ⟨#[10]⟩]:=by rw[MR];exact(Has.new' _ _ _ _ sM).alloc _
 have kV:Has wL (w2.heap.size+1+2) 3 #[I 0]:=by rw[MR];exact Has.new' _ _ _ _ sM
 have hbL:Below w2.heap.size w2 wL:=by rw[MR];exact((((Below.refl _ _).alloc (aj _) _).alloc sM _).alloc (by simp;omega) _).alloc (by simp;omega) _
 have hgs:g+1<w2.heap.size:=Xj.out.lt;have hI0:MO w g w2.heap.size [] wL:=⟨⟨x,vr,HDK.out.after hbL⟩,⟨.slice none 0 0,⟨⟨_,.inl rfl,kB⟩,World.ownsRow_nil _ _ _ _,oM⟩,.inl rfl⟩,(λc t hh=>by cases hh),Xj.out.after hbL,⟨_,kS⟩,kP,kV,HB2.out.trans (hbL.mono oM),HS2.out.after hbL⟩;have Uh:Hid (9<=g):=hI HNG.out;have hNL:w2.heap.size+3<wL.heap.size:=kV.lt;rw[<-MR];have Zn:=hI (And.intro kS (And.intro kP kV));have HI0:=hI hI0;clear kB kS kP kV hbL MR hI0;generalize w2.heap.size=bb at*;refine range_split dC (⟨(Lib.trimSuffix text.data.toList [10]).toArray⟩:ay) oM (bb+1) (bb+1+1) (bb+1+2) oM rfl rfl Zn.out.1 Zn.out.2.1 Zn.out.2.2 (MO w g bb) (λpre W W' hI m=>hI.Kh m oM hgs Uh.out) HI0.out
  (λy=>{tmps:=#[.string text,undef,.string ⟨#[]⟩,pT (g+1) 0,pT bb 0,.string y,.string text,.int .i64 text.size,.bool false,.agg #[.int .i64 0,.slice none 0 0,.int .i64 0,.pointer none],pT g 0,pT g 0,.slice (some ⟨g+1+1,0,none⟩) 6 6,.string ⟨#[98,101,103,105,110]⟩,.string text,.string ⟨(Lib.trimSuffix text.data.toList [10]).toArray⟩,.func (.func 63) #[] #[pT (bb+1+1) 0,pT (bb+1) 0,pT (bb+1+2) 0],.string y,undef,undef,undef,undef,undef,undef],defers:=[]}) ?assign ?body ?done
 case assign=>
  intro l y W K hK
  gi_wp2
  exact hK
 case body=>
  rintro l pre y W iJ ⟨rest,hr⟩;obtain⟨hlen,T,hT,hF,hZ0⟩:=qO.out pre (y::rest) hr;obtain⟨_,_,_,_,hZ1⟩:=qO.out (pre++[y]) rest (by rw[List.append_assoc];exact hr);obtain⟨hal,hac⟩:=Yp.out pre y rest hr;rw[ma]at hZ1;have hys:y.size<=20000:=aS (xy _ _ y (by rw[<-hr];simp)) hsz2;obtain⟨x1,vr1,hd⟩:=iJ.J7;obtain⟨v,hb,ho⟩:=iJ.bu;have C3:=hI (Uf hd Uh.out hF hT iJ.zX y oM);have c0:=iJ.dv.aJ 0 (pT g 0) rfl;have g0:=iJ.dv.lt;have HD:=hI hd;have HBU:=hI hb;have HI:=hI iJ;have HZ1:=hI hZ1;have Zo:=hI (MP (pre:=pre) (y:=y) iJ hd hb ho hgs Uh.out hZ1 hac);have Ub:(⟨(dT (eh dL pre).1 y).2.toArray⟩:ay).data.toList=(dT (eh dL pre).1 y).2:=sM;have hts:(⟨(dT (eh dL pre).1 y).2.toArray⟩:ay).size<=1000000:=by show(dT (eh dL pre).1 y).2.toArray.size<=_;simpa using hal
  unfold yA at C3;generalize (⟨(dT (eh dL pre).1 y).2.toArray⟩:ay)=TA at*;have hadd:¬9223372036854775807<TA.size+1:=oM;have nT:=hI (And.intro Ub hts);have HLE:=hI hlen;clear hr hlen hT hF hZ0 hal hac hZ1 hys hd hb iJ ho Ub hts
  gi_wp2_with (first
   |(refine⟨trivial,?_⟩;gi_at_call 18;refine(CallsIn.inRound l (callsIn_wide.2 C3.out)).mono ?_;rintro e w3 ⟨rfl,x',vx,hd3,GH⟩;have HD3:=hI hd3;have HM3:=hI GH;have HW:=hI (PY (HBU.out.moved HD.out GH) (TA++⟨#[10]⟩) (by rw[ByteArray.size_append];have:=nT.out.2;have:=HLE.out;show _+(TA.size+1)<=_;omega) hd3.hB);clear hd3 GH)
   |(refine⟨trivial,?_⟩;gi_at_call 17;refine(CallsIn.inRound l (callsIn_wide.2 HW.out)).mono ?_;rintro e w4 ⟨⟨_,rfl⟩,v',hb4,MQ⟩;have H4:=hI (And.intro hb4 MQ);clear hb4 MQ))
  have hst:=Zo.out TA _ _ _ _ _ nT.out.1 HD3.out HM3.out H4.out.1 H4.out.2;simpa using hst
 case done=>
  intro D W hDN iJ hK;obtain⟨v,hb,_⟩:=iJ.bu;have HST:=hI (Wu hb (MN _ (Ki _ _)));have HLW:=hI iJ.low;clear hb iJ
  gi_wp2_with (refine⟨trivial,?_⟩;gi_at_call 19;refine(callsIn_wide.2 HST.out).mono ?_;rintro e w5 ⟨rfl,gg,n,hgg,⟨t9,cs9,hh9⟩,rfl⟩)
  have hK5:=Dq hh9 n hK rfl;have hb5:Below g w (W.drew.freeze ⟨gg,0,none⟩ n):=Lib.below_freeze (Below.drew HLW.out) (p:=⟨gg,0,none⟩) hgg n;refine⟨sM,.inl ⟨_,_,rfl,run_takeDeferred hK5,?_⟩⟩;refine⟨_,results_tmp rfl _ _ _,rfl,?_⟩;rw[HG.out];exact hb5.trans ((Below.refl g _).grown (grownBy_putObj' _ D (.deferred none)) (aS oM (bA (az.1 hK5).1)) (λk e=>by cases e;omega))
end Go.Proofs.YtdhekhlmdefcnaaGreatDoor
namespace Go.Proofs.YtdhekhlmdefcnaaGreatDoor
theorem MT(k:Int):∃l,idx k=0::l:=by
 unfold idx;repeat' split
 all_goals exact⟨_,rfl⟩
theorem MU{f:List Int}(h:f.getD 0 0<65536):∃t,lu f=0::t:=by obtain⟨l,hl⟩:=MT (f.getD 0 0);unfold lu body jG;rw[hl,bN,List.take_succ_cons,List.flatMap_cons];have e:∃u,three (f.getD 0 0)=0::u:=⟨_,by unfold three;rw[show(f.getD 0 0).toNat/65536=0 by omega];rfl⟩;obtain⟨u,hu⟩:=e;rw[hu];exact⟨_,rfl⟩
theorem P5{f:List Int}(h:fC f=true):f.getD 0 0<65536:=by unfold fC qf at h;simp only[aV,decide_eq_true_eq]at h;omega
section
variable {s:Sys}{L:Lay}
theorem ez.put(h:ez s){g:ku}(hg:∃t,g.bytes=0::t):ez (iq s g):=by unfold iq;split;exact h;intro gm hm;rcases List.mem_append.1 hm with hm|hm;exact h gm hm;rw[bW.1 hm];exact hg
theorem ez.send(h:ez s)(a b:Nat)(f:List Int):ez (di s a b f):=by unfold di;split;rename_i hm;exact h.put (MU (P5 hm));exact h
theorem ez.fold{α:Type}{F:Sys->α->Sys}(hF:∀s x,ez s->ez (F s x)):∀(l:List α){s:Sys},ez s->ez (l.foldl F s)
 |[],_,h=>h
 |x::l,_,h=>ez.fold hF l (hF _ x h)
theorem ez.way{s':Sys}(h:ez s)(e:∀g∈s'.way,g∈s.way):ez s':=λg hg=>h g (e g hg)
theorem ez.sendAll(h:ez s)(a:Nat)(l:List Nat)(f:List Int):ez (Go.Proofs.YtdhekhlmdefcnaaGreatDoor.sendAll s a l f):=ez.fold (λ_ _ hs=>hs.send _ _ _) l h
theorem ez.gA(h:ez s)(k:Nat):ez (Go.Proofs.YtdhekhlmdefcnaaGreatDoor.gA L s k):=by have h1:ez (Go.Proofs.YtdhekhlmdefcnaaGreatDoor.sendAll {s with rs:=s.rs.set k (ea L (re s k)).1} k (others k) (ea L (re s k)).2.1):=ez.sendAll (s:={s with rs:=s.rs.set k (ea L (re s k)).1}) h _ _ _;unfold Go.Proofs.YtdhekhlmdefcnaaGreatDoor.gA;dsimp only;split;exact h1.send _ _ _;exact h1
theorem ez.tick(h:ez s)(k:Nat):ez (iT L s k):=by unfold iT;split;exact h;exact h.gA k
theorem ez.asks(h:ez s)(k:Nat):ez (js s k):=h.sendAll _ _ _
theorem ez.erase(h:ez s)(i:Nat):ez {s with way:=s.way.eraseIdx i}:=h.way λ_ hg=>List.mem_of_mem_eraseIdx hg
theorem ez.twice(h:ez s)(i:Nat):ez (eI s i):=by unfold eI;split;exact h;rename_i g hg;exact h.put (h g (aR hg))
theorem ez.gD(h:ez s)(all:Bool)(b:Nat)(f:List Int):ez (Go.Proofs.YtdhekhlmdefcnaaGreatDoor.gD s all b f):=ez.fold (λs x hs=>by
 split;exact hs.send _ _ _
 ·exact hs) _ h
theorem ez.cO(h:ez s)(i:Nat):ez (Go.Proofs.YtdhekhlmdefcnaaGreatDoor.cO L s i):=by unfold Go.Proofs.YtdhekhlmdefcnaaGreatDoor.cO;split;exact h;dsimp only;split;split;exact ez.fold (λ_ _ hs=>hs.gD _ _ _) _ (h.erase i);exact ez.fold (λ_ _ hs=>hs.send _ _ _) _ (h.erase i);exact h.erase i
theorem ez.ey:∀(n:Nat){s:Sys},ez s->ez (Go.Proofs.YtdhekhlmdefcnaaGreatDoor.ey L s n)
 |0,_,h=>h
 |n+1,_,h=>by unfold Go.Proofs.YtdhekhlmdefcnaaGreatDoor.ey;split;exact h;exact ez.ey n (h.cO 0)
theorem ez.half(h:ez s)(N:Nat):ez (gF L N s):=ez.ey N (((h.gA 0).gA 1).gA 2)
theorem ez.calm(N:Nat):∀(n:Nat){s:Sys},ez s->ez (Go.Proofs.YtdhekhlmdefcnaaGreatDoor.calm L N s n)
 |0,_,h=>h
 |n+1,s,h=>by have h3:ez (gF L N (gF L N (Go.Proofs.YtdhekhlmdefcnaaGreatDoor.ey L s N))):=((ez.ey N h).half N).half N;unfold Go.Proofs.YtdhekhlmdefcnaaGreatDoor.calm;exact ez.calm N n (s:={gF L N (gF L N (Go.Proofs.YtdhekhlmdefcnaaGreatDoor.ey L s N))with v:=eM (gF L N (gF L N (Go.Proofs.YtdhekhlmdefcnaaGreatDoor.ey L s N))).v}) h3
end
theorem EI{n:Int}(h1:1<=n)(h2:n<=20):bL 0 (Sys.new n):=by
 refine⟨rfl,λk hk=>?_,Pd h1 h2,(λc hc=>by cases hc),(λy hy=>?_),bT _,aj _,(λg hg=>by cases hg)⟩
 ·have:k=0\/k=1\/k=2:=by omega
  rcases this with rfl|rfl|rfl;exact nu dC;exact nu dC;exact nu dC
 ·have e:y=(Cm.zero,false):=List.eq_of_mem_replicate (n:=3) hy;rw[e];exact qy
structure kH(T:Nat)(d:Dk):Prop where
 ok:d.L.Ok
 fine:bL T d.s
 Zp:ez d.s
theorem Cu:∀{l:List ay}{n:List Int},eN l=some n->∀v∈n,eu v
 |[],n,h,v,hv=>by
  have:n=[]:=by simpa[eN]using h.symm
  rw[this]at hv;cases hv
 |s::l,n,h,v,hv=>by
  unfold eN at h;split at h;cases h
  ·rename_i u hu;cases hl:eN l with
   |none=>rw[hl]at h;cases h
   |some m=>rw[hl]at h;(have e:u::m=n:=by simpa using h);rw[<-e]at hv;rcases List.mem_cons.1 hv with rfl|hv;exact PM hu;exact Cu hl v hv
theorem Cv{l:List ay}{k:Int}{n:List Int}(h:numsOf l k=some n):∀v∈n,eu v:=by unfold numsOf at h;split at h;cases h;exact Cu h
theorem Kk{n:List Int}(h:∀v∈n,eu v)(i:Nat):eu (n.getD i 0):=by
 rw[aD];cases hi:n[i]? with
 |none=>exact⟨dC,dC⟩
 |some v=>exact h v (aR hi)
theorem kH.mono{T U:Nat}{d:Dk}(h:kH T d)(hU:T<=U):kH U d:=⟨h.ok,h.fine.mono hU,h.Zp⟩
theorem kH.sys{T U:Nat}{d:Dk}(h:kH T d){s:Sys}(hf:bL U s)(hz:ez s):kH U {d with s:=s}:=⟨h.ok,hf,hz⟩
theorem kH.one{T U:Nat}{d:Dk}(h:kH T d)(hU:T<=U){ok:Bool}{s:Sys}{t:By}(hs:ok=true->bL U s/\ez s):kH U (fw d ok s t).1:=by unfold fw;split;rename_i hk;exact h.sys (hs hk).1 (hs hk).2;exact h.mono hU
theorem pU{i:Int}(h:eP i=true):i.toNat<3:=by unfold eP at h;simp only[aV,decide_eq_true_eq]at h;omega
theorem kH.begin{T U:Nat}{d:Dk}(h:kH T d)(hU:T<=U){n:List Int}(h4:4<=n.length):kH U (my d n).1:=by
 match n,h4 with
 |n0::n1::n2::rs,_=>unfold my;split;rename_i hc;split;rename_i hw;have hc':ib n2 rs n1=.ok:=hc;obtain⟨L,hL,rfl,rfl,rfl⟩:=zz hc';(have hlo:My (n0::(L.delay:Int)::(L.secs:Int)::zs L.routes)=L:=by show(⟨Int.toNat (L.secs:Int),(zs L.routes).map Int.toNat,Int.toNat (L.delay:Int)⟩:Lay)=L;(have:(zs L.routes).map Int.toNat=L.routes:=by unfold zs;rw[List.map_map];exact(List.map_congr_left (g:=id) λ_ _=>rfl).trans (List.map_id _));rw[this];rfl);rw[hlo];exact⟨hL,(EI hw.1 hw.2).mono (bT _),λg hg=>by cases hg⟩;exact h.mono hU;exact h.mono hU
theorem kH.does{T:Nat}{d:Dk}(h:kH T d)(c:xm)(l:List ay):kH (T+5050000) (bB c d l).1:=by
 have hm:=h.mono (U:=T+5050000) oM;have hf:=h.fine;have hz:=h.Zp;have hL:=h.ok;cases c with
 |ask=>simp only[bB];split;exact hm;rename_i n hn;exact h.one oM λhk=>⟨(hf.asks (pU hk)).mono oM,hz.asks _⟩
 |begin=>simp only[bB];split;exact hm;rename_i n hn;exact h.begin oM (lm hn)
 |calm=>simp only[bB];split;exact hm;rename_i n hn;refine h.one oM λhk=>⟨(bL.calm hL 1200 (cC n).toNat hf).mono ?_,ez.calm 1200 (cC n).toNat hz⟩;simp only[aV,decide_eq_true_eq]at hk;have:(cC n).toNat<=100:=oM;have h2:=Nat.mul_le_mul_left (30+42*1200) this;omega
 |conflicts=>simp only[bB];split;exact hm;exact hm
 |pp=>simp only[bB];split;exact hm;rename_i n hn;exact h.one oM λhk=>⟨(hf.pp (pU hk)).mono oM,hz.way λ_ hg=>hg⟩
 |cO=>simp only[bB];split;exact hm;rename_i n hn;exact h.one oM λ_=>⟨(hf.cO hL _).mono oM,hz.cO _⟩
 |EC=>simp only[bB];split;exact hm;exact hm
 |su=>simp only[bB];split;exact hm;rename_i n hn;exact h.sys (hf.su.mono oM) (hz.way λ_ hg=>hg)
 |lose=>simp only[bB];split;exact hm;rename_i n hn;exact h.one oM λ_=>⟨(hf.lose _).mono oM,hz.erase _⟩
 |many=>simp only[bB];split;exact hm;exact hm
 |most=>simp only[bB];split;exact hm;exact hm
 |pQ=>simp only[bB];split;exact hm;rename_i n hn;split<;>exact hm
 |see=>simp only[bB];split;exact hm;rename_i n hn;refine h.one oM λhk=>⟨(hf.see (pU hk) ⟨?_,?_⟩).mono oM,hz.way λ_ hg=>hg⟩;exact Kk (Cv hn) 1;exact Kk (Cv hn) 2
 | «show» =>simp only[bB];split;exact hm;exact hm
 |tick=>simp only[bB];split;exact hm;rename_i n hn;refine h.one oM λhk=>⟨(hf.tick hL ?_).mono oM,hz.tick _⟩;simp only[cw,decide_eq_true_eq]at hk;rcases hk with hk|hk;exact bA (pU hk);omega
 |trace=>simp only[bB];split;exact hm;exact hm
 |twice=>simp only[bB];split;exact hm;rename_i n hn;exact h.one oM λ_=>⟨(hf.twice _).mono oM,hz.twice _⟩
theorem kH.line{T:Nat}{d:Dk}(h:kH T d)(s:ay):kH (T+5050000) (dT d s).1:=by unfold dT;split;exact h.mono oM;split;exact h.mono oM;exact h.does _ _
theorem kH.fold:∀(l:List ay){T:Nat}{r:Dk×By},kH T r.1->kH (T+5050000*l.length) (l.foldl (λr s=>((dT r.1 s).1,r.2++((dT r.1 s).2++[10]))) r).1
 |[],_,_,h=>h
 |s::l,T,r,h=>by rw[bG,bN];exact(kH.fold l (r:=((dT r.1 s).1,r.2++((dT r.1 s).2++[10]))) (h.line s)).mono oM
theorem kH.run{T:Nat}(l:List ay){d:Dk}(h:kH T d):kH (T+5050000*l.length) (eh d l).1:=kH.fold l (r:=(d,[])) h
theorem P6:kH 0 dL:=⟨EH,EI dC dC,λg hg=>by cases hg⟩
open Go.Proofs.Tryz Go.RowKit
def Pr(l:By):Prop:=∀c∈l,c≠0
theorem Pr.app{a b:By}(h:Pr a)(k:Pr b):Pr (a++b):=λc hc=>(List.mem_append.1 hc).elim (h c) (k c)
theorem NN(u:Nat):Pr (Lib.decDigits u):=by
 induction u using Nat.strongRecOn with
 |_ u ih=>unfold Lib.decDigits;have hd:∀k,k<10->UInt8.ofNat (48+k)≠0:=dC;split;intro c hc;rw[bW.1 hc];exact hd _ oM;refine(ih (u/10) oM).app λc hc=>?_;rw[bW.1 hc];exact hd _ oM
theorem Cw(n:Int):Pr (Lib.itoa n):=by unfold Lib.itoa;split;intro c hc;rcases List.mem_cons.1 hc with rfl|hc;decide;exact NN _ c hc;exact NN _
theorem Cx{sep:By}(hs:Pr sep):∀(l:List By),(∀x∈l,Pr x)->Pr (Lib.join l sep)
 |[],_=>by intro c hc;simp[Lib.join]at hc
 |[a],h=>by have:=h a sM;simpa[Lib.join]using this
 |a::b::l,h=>by
  have ih:=Cx hs (b::l) (λx hx=>h x (List.mem_cons_of_mem _ hx));have e:Lib.join (a::b::l) sep=a++sep++Lib.join (b::l) sep:=by simp[Lib.join,List.intercalate,List.intersperse]
  rw[e];exact((h a sM).app hs).app ih
theorem yC(l:List Int):Pr (eF l):=Cx (by intro c hc;rw[bW.1 hc];decide) _ λx hx=>by obtain⟨z,_,rfl⟩:=List.mem_map.1 hx;exact Cw z
theorem vz{l:List Int}(h:∀x∈l,eu x):(eF l).length<=22*l.length:=by refine aS (join_le 21 [32] _ λx hx=>?_) sM;obtain⟨z,hz,rfl⟩:=List.mem_map.1 hx;exact Lib.itoa_length_le z (h z hz).1 (h z hz).2
def uj(t:By):Prop:=Pr t/\t.length<=100000
theorem Ui{d:Dk}{ok:Bool}{s:Sys}{t u:By}(hg:uj u)(h:(fw d ok s u).2=.txt t):uj t:=by unfold fw at h;split at h;injection h with h;rw[<-h];exact hg;cases h
theorem yD{a b:Int}(ha:eu a)(hb:eu b):uj (eF [a,b]):=⟨yC _,aS (vz (l:=[a,b]) (by intro x hx;simp at hx;rcases hx with rfl|rfl<;>assumption)) sM⟩
theorem Kl{l:List Cm}(hl:l.length<=1000)(h:∀c∈l,ly c):uj (Lib.join (l.map jL) [44,32]):=by refine⟨Cx (by unfold Pr;decide) _ λx hx=>?_,aS (join_le 66 [44,32] _ λx hx=>?_) ?_⟩;obtain⟨z,_,rfl⟩:=List.mem_map.1 hx;exact yC _;obtain⟨z,hz,rfl⟩:=List.mem_map.1 hx;exact Cp (h z hz);rw[List.length_map];have:(66+[44,32].length)*l.length<=68*1000:=Nat.mul_le_mul sM hl;omega
theorem MV{T:Nat}{d:Dk}(h:kH T d)(hT:T<=9900000000)(c:xm)(l:List ay)(t:By)(e:(bB c d l).2=.txt t):uj t:=by
 have hf:=h.fine;have hw:=hf.vo;cases c<;>simp only[bB]at e<;>split at e<;>first
  |(cases e;done)
  |exact Ui (by unfold uj Pr;decide) e
  |skip
 ·unfold my at e;split at e;split at e;exact zcF;cases e;cases e
 ·injection e with e;rw[<-e];refine⟨yC _,aS (vz λx hx=>?_) ?_⟩;obtain⟨z,hz,rfl⟩:=List.mem_map.1 hx;unfold dp at hz;obtain⟨q,hq,rfl⟩:=List.mem_map.1 hz;have:conf d.L.routes q<256:=iY _ _ _ h.ok.ja;exact eu.nat oM;rw[dw,jT];have:=h.ok.ja;omega
 ·exact zcF
 ·exact zcF
 ·injection e with e;rw[<-e];exact yD (eu.nat (by have:=hf.way;omega)) (eu.nat (by have:=hf.lost;omega))
 ·injection e with e;rw[<-e];have hb:=vq (dp d.L.routes) (2^d.L.routes.length);have hi:eu ((je (dp d.L.routes) (2^d.L.routes.length):Nat):Int):=eu.nat oM;exact⟨Cw _,aS (Lib.itoa_length_le _ hi.1 hi.2) oM⟩
 ·split at e;rename_i hk;injection e with e;rw[<-e];have hfit:=hf.fits _ (pU hk);exact yD (eu.nat (by have:=hfit.cycle;omega)) (eu.nat (by have:=hfit.state.set;omega));cases e
 ·injection e with e;rw[<-e];have h2:=yD (Cl hf) (eu.nat (n:=d.s.v.out) (by have:=hf.vo.out;omega));have h3:uj (Lib.formatBool d.s.v.bO):=by cases d.s.v.bO<;>(unfold uj Pr;decide)
  refine⟨(h2.1.app (by unfold Pr;decide)).app h3.1,?_⟩;rw[bm,bm];have h5:(eF [fD d.s.v,(d.s.v.out:Int)]).length<=44:=aS (vz (by intro x hx;simp at hx;rcases hx with rfl|rfl;exact Cl hf;exact eu.nat (by have:=hf.vo.out;omega))) sM;have h6:(Lib.formatBool d.s.v.bO).length<=5:=by cases d.s.v.bO<;>decide
  simp;omega
 ·injection e with e;rw[<-e];exact Kl hf.vo.many hf.trace
theorem Cy{T:Nat}{d:Dk}(h:kH T d)(hT:T<=9900000000)(s:ay):uj (dT d s).2:=by
 have he:∀n:Int,0<=n->n<=9->uj (Kb (.err n)):=λn h0 h9=>⟨(show Pr [101,114,114,111,114,32]by unfold Pr;decide).app (Cw n),by
  show([101,114,114,111,114,32]++Lib.itoa n).length<=_;rw[bm];have:=Lib.itoa_length_le n oM oM;simp;omega⟩
 unfold dT;split;show uj [111,107];unfold uj Pr;decide
 ·split;exact he 3 dC dC
  ·rename_i p _;show uj (Kb (bB p.2.1 d _).2);cases hr:(bB p.2.1 d _).2 with
   |txt t=>exact MV h hT _ _ t hr
   |err n=>have:=Cq _ _ _ _ hr;exact he n this.1 this.2
theorem tY{pre:List ay}(h:pre.length<=1950):kH 9900000000 (eh dL pre).1:=(P6.run pre).mono oM
theorem Km:∀(n:Nat)(pre:List ay),pre.length=n->n<=1950->(eh dL pre).2.length<=100001*n
 |0,pre,h,_=>by have:pre=[]:=cM h;subst this;exact aj _
 |n+1,pre,h,hn=>by
  have hne:pre≠[]:=λe=>by rw[e]at h;cases h
  have hd:pre.dropLast.length=n:=by rw[List.length_dropLast,h];rfl
  have ih:=Km n pre.dropLast hd oM;rw[<-List.dropLast_concat_getLast hne,ma];have hg:=(Cy (tY (pre:=pre.dropLast) oM) (aj _) (pre.getLast hne)).2;simp only[bm,List.length_singleton];omega
theorem MW{text:ay}(h:(iD text).length<=1950):∀pre rest,pre++rest=iD text->(eh dL pre).2.length<=90000000000/\∃T,T<=9900000000/\bL T (eh dL pre).1.s/\ez (eh dL pre).1.s:=λpre rest e=>by
 have hl:pre.length<=1950:=by have:=congrArg List.length e;rw[bm]at this;omega
 have:=Km _ pre rfl hl;exact⟨oM,_,aj _,(tY hl).fine,(tY hl).Zp⟩
theorem P7{text:ay}(h:(iD text).length<=1950):∀pre x rest,pre++x::rest=iD text->(dT (eh dL pre).1 x).2.length<=1000000/\∀c u,(dT (eh dL pre).1 x).2=c::u->c≠0:=λpre x rest e=>by
 have hl:pre.length<=1950:=by have:=congrArg List.length e;rw[bm]at this;omega
 have hg:=Cy (tY hl) (aj _) x;exact⟨aS hg.2 dC,λc u hc=>hg.1 c (by rw[hc];simp)⟩
theorem pV(text:ay)(hz:text.size<=20000)(hl:(iD text).length<=1950)(w:aa)(hs:Std w):Calls prog 8 #[.string text] w λe w'=>e=.returned (.string ⟨(eh dL (iD text)).2.toArray⟩)/\Below w.heap.size w w':=
 Kj text hz w hs (MW hl) (P7 hl)
def GI:ay:=⟨#[99,111,110,102,108,105,99,116,115,10,109,111,115,116,10,115,104,111,119,10,120,10]⟩
def Uj:ay:=⟨#[52,32,52,32,51,10,50,10,48,32,48,32,102,97,108,115,101,10,101,114,114,111,114,32,51,10]⟩
theorem Kn:(iD GI).length=4:=kR
theorem Dr:(⟨(eh dL (iD GI)).2.toArray⟩:ay)=Uj:=kR
theorem P8(w:aa)(hs:Std w):Calls prog 5 #[] w λe w'=>e=.returned (.bool true)/\Below w.heap.size w w':=by
 have HS:=hI (pV GI dC (by rw[Kn];decide) w hs);rw[Dr]at HS;unfold GI Uj at HS;clear hs;go_enter func5,ntmps5;go_wp2_with (go_at_call 8;refine HS.out.mono ?_;rintro e w2 ⟨rfl,hb2⟩)
 go_ret;exact⟨rfl,hb2⟩
end Go.Proofs.YtdhekhlmdefcnaaGreatDoor
namespace Go.Proofs.YtdhekhlmdefcnaaGreatDoor
theorem xz:∀(k:Nat)(s:ay),(dW k s).length<=k+1
 |0,_=>by simp[dW]
 |k+1,s=>by unfold dW;split;simp;have:=xz k (s.extract ((Lib.indexByte s.data.toList 10).toNat+1) s.size);rw[bN];omega
theorem GJ(text:ay){n:Nat}(h:text.size<=n):(iD text).length<=n+1:=aS (xz _ _) (Nat.succ_le_succ (Ct text h))
open Go.Proofs.Tryz Go.RowKit
theorem Uk(a n:Int)(h:0<n)(hn:n<=4611686018427387904):wrap64 ((IntKind.u64.wrap a).tmod n)=pk a n:=by rw[IntKind.wrap_u64,Int.tmod_eq_emod_of_nonneg oM];have:=vA a n h;unfold pk at*;exact IntWalk.wrap64_in _ oM
theorem P9(a n:Int)(h:0<n)(hn:n<=4611686018427387904)(w:aa):
 Calls prog 7 #[.int .i64 a,.int .i64 n] w λe w'=>e=.returned (I (pk a n))/\w'=w:=by
 have HP:=hI (Uk a n h hn);go_enter func7,ntmps7;go_wp2;go_ret;exact⟨by rw[<-HP.out];rfl,rfl⟩
theorem GK(t:ay)(ht:t.size<=1000)(w:aa)(hs:Std w):Calls prog 8 #[.string t] w λe w'=>e=.returned (.string (pW t))/\Below w.heap.size w w':=
 pV t oM (by have:=GJ t ht;omega) w hs
end Go.Proofs.YtdhekhlmdefcnaaGreatDoor

import Derived.Test.YtknchlpcpgflkaaGreatDoorKGBP
import Derived.Test.YtknchlpcpgflkaaGreatDoorKGBM
import Derived.Test.YtknchlpcpgflkaaGreatDoorKGBC
import Derived.Test.YtknchlpcpgflkaaGreatDoorKUh
import Derived.Test.YtknchlpcpgflkaaGreatDoorKGAM
set_option maxRecDepth 100000
set_option maxHeartbeats 16000000
namespace Go.Proofs.YtknchlpcpgflkaaGreatDoor
open Go.RowKit Go.Shelf
theorem rapply_ok (w:World) (B:Nat) (m:Mt) (x:MtX) (h:MtAt w B m x) (hB:B≤w.heap.size) (hs:Sml m) (hcm:m.rs.length≤x.c3) (g:Mg) (z:MgX) (hg:MgAt w B g z) (hsg:SmlG g) (p:Pc) (y:PcX) (hp:PcAt w B p y) (hsp:SmlP p) (hcp:p.ss.length≤y.c1) (q:Pc) (v:PcX) (hq:PcAt w B q v) (hsq:SmlP q) (hcq:q.ss.length≤v.c1) (day:Int) (D:Option Addr) (l:List Int) (cl:Nat) (hD:IntsAt w B D l) (hll:l.length≤4611686018427387904)
 (hok:apB m g p q day=true) (hn0:¬ newSt g m.st<0) (hor:¬ (day<m.o∨day<lastI m.o m.mv)) :
 Calls Tryz.prog 24 #[.agg (mtC m x),.agg (mgC g z),.agg (pcC p y),.agg (pcC q v),.int .i64 day,.slice D l.length cl] w (MtPost w (applyE m g p q day l) (applyM m g p q day l)):=by
 obtain ⟨l0,hl0,lz0,lz1,lz2⟩:=info_parts Tryz.infoLimit;obtain ⟨i0,hi0,hz0,hz1,hz2⟩:=info_parts Tryz.infoRight;obtain ⟨E,hE⟩:∃ E,chgE g.ts day l m.ls=E:=⟨_,rfl⟩;have hE2:applyE m g p q day l=E:=by unfold applyE;rw [if_neg (by rw [hok];decide),if_neg hn0,if_neg hor];exact hE
 obtain ⟨Z,hZ⟩:∃ Z,applyM m g p q day l=Z:=⟨_,rfl⟩;rw [hE2,hZ];have hM:Z=if E=0 then ⟨m.id,m.o,m.cs,g.tn,newSt g m.st,m.mv,mergeR g.rs m.rs,chgL g.ts day l m.ls⟩ else Mt.zero:=by rw [← hZ];unfold applyM;rw [hE2]
 clear hE2 hZ;have hva:=fun W (hW:Below w.heap.size w W)=>rvalidG_any W B g z (hg.below (hW.mono hB)) (Nat.le_trans hB hW.size) hsg p y (hp.below (hW.mono hB)) hsp hcp q v (hq.below (hW.mono hB)) hsq hcq;have htx:=fun W (hW:Below w.heap.size w W)=>rformed_any W B m x (h.below (hW.mono hB)) (Nat.le_trans hB hW.size) hs hcm;have hdy:=fun W=>rDay_any W day;unfold apB at hok;simp only [Bool.and_eq_true,decide_eq_true_eq] at hok;obtain ⟨hv,hf,hpr,hstl,hday⟩:=hok;rw [hv] at hva;rw [hf] at htx;rw [hday] at hdy;obtain ⟨-,-,-,⟨hst0,-⟩,-⟩:=fmB_iff.1 hf;obtain ⟨hmg,-,-,-,-,hgl,-⟩:=vdB_iff.1 hv;obtain ⟨hd0,hd1⟩:=(isB_iff _).1 hday;have hnd:=mergeR_nodup g.rs;have hnm:=fun W (hW:Below w.heap.size w W) n=>rnamed32_any W B g z (hg.below (hW.mono hB)).rs (Nat.le_trans hB hW.size) (by have:=hsg.2.1;omega) n;have htm:=fun W (hW:Below w.heap.size w W) n=>rterm32_any W B g z (hg.below (hW.mono hB)).ts (by have:=congrArg List.length hg.tv;simpa using this.symm) (Nat.le_trans hB hW.size) (by have:=hsg.2.2;omega) n;simp only [hg.tv] at htm;have hch:=fun W (hW:Below w.heap.size w W) (X:LmV) (hX:X∈x.lv) (n u f:Int)=>Lim.rChange_any W X.1 day n u f B X.2.1 X.2.2 (lms_elem (h.below (hW.mono hB)).ls hX) (Nat.le_trans hB hW.size) D l cl (hD.below (hW.mono hB)) hll;have hrl:=hs.2.2.1;have hll2:=hs.2.2.2;have htl:=hsg.2.2;have hml:=hs.2.1;clear hv hf hmg hp hq hs hsg hsp hsq hcm hcp hcq hD;have hKl:=h.len;have hJl:z.tv.length=g.ts.length:=by have:=congrArg List.length hg.tv;simpa using this
 obtain ⟨id,o,cs,pr,st,mv,rs,ls⟩:=m;obtain ⟨a1,c1,a2,c2,a3,c3,a4,c4,lv⟩:=x;obtain ⟨fr,tn,gst,grs,gts⟩:=g;obtain ⟨b1,dq1,b2,dq2,b3,dq3,tv⟩:=z;obtain ⟨pn,pss,pms⟩:=p;obtain ⟨ez1,f1,ez2,f2⟩:=y;obtain ⟨qn,qss,qms⟩:=q;obtain ⟨i1,j1,i2,j2⟩:=v;simp only at hE hM hn0 hor hpr hstl hst0 hgl hnd hrl hll2 htl hml hKl hJl;subst hpr;obtain ⟨sn,rfl⟩:∃ n:Nat,st=(n:Int):=⟨st.toNat,by omega⟩;obtain ⟨ns,hns⟩:∃ s,gst[sn]? = some s:=⟨_,List.getElem?_eq_getElem (by omega)⟩;have hnw:newSt ⟨pr,tn,gst,grs,gts⟩ (sn:Int)=ns:=by show (gst[(sn:Int).toNat]?).getD 0=ns;rw [Int.toNat_natCast,hns];rfl
 rw [hnw] at hM hn0;obtain ⟨ga,oa,hAg,hga,pg⟩:=hg.st sn ns hns;have hAg:b1=some ⟨ga,oa,none⟩:=hAg;subst hAg;obtain ⟨N,hN⟩:∃ N,rs.length=N:=⟨_,rfl⟩;obtain ⟨K,hK⟩:∃ K,ls.length=K:=⟨_,rfl⟩;obtain ⟨J,hJ⟩:∃ J,gts.length=J:=⟨_,rfl⟩;have hlast:lastI o mv≤day:=Int.not_lt.1 fun hx=>hor (.inr hx);have hdo:¬ day<o:=fun hx=>hor (.inl hx);have e8:decide (day<o)=false:=decide_eq_false hdo;have e7:decide (ns<0)=false:=decide_eq_false hn0;have e5:decide (day<0)=false:=decide_eq_false (by omega);have e6:decide (1000000<day)=false:=decide_eq_false (by omega);obtain ⟨k2,hk2⟩:∃ K,mv.length=K:=⟨_,rfl⟩;obtain ⟨pl,hpl⟩:∃ K,pss.length=K:=⟨_,rfl⟩;obtain ⟨gn,hgn⟩:∃ K,gst.length=K:=⟨_,rfl⟩;rw [hN] at hrl;rw [hK] at hll2 hKl;rw [hJ] at htl hJl;rw [hk2] at hml;rw [hgn,hpl] at hgl;rw [hpl] at hstl;obtain rfl:pl=gn:=hgl.symm;have e4:decide ((pl:Int)≤(sn:Int))=false:=decide_eq_false (by omega);have e4n:decide (pl≤sn)=false:=decide_eq_false (by omega);have eM:mtC ⟨id,o,cs,pr,(sn:Int),mv,rs,ls⟩ ⟨a1,c1,a2,c2,a3,c3,a4,c4,lv⟩=#[.string id,.int .i64 o,.slice a1 cs.length c1,.string pr,.int .i64 (sn:Int),.slice a2 k2 c2,.slice a3 N c3,.slice a4 K c4]:=by unfold mtC;simp only [hN,hK,hk2]
 have eG:mgC ⟨pr,tn,gst,grs,gts⟩ ⟨some ⟨ga,oa,none⟩,dq1,b2,dq2,b3,dq3,tv⟩=#[.string pr,.string tn,.slice (some ⟨ga,oa,none⟩) pl dq1,.slice b2 grs.length dq2,.slice b3 J dq3]:=by unfold mgC;simp only [hJ,hgn]
 have eP:pcC ⟨pn,pss,pms⟩ ⟨ez1,f1,ez2,f2⟩=#[.string pn,.slice ez1 pl f1,.slice ez2 pms.length f2]:=by unfold pcC;simp only [hpl]
 have eQ:pcC ⟨qn,qss,qms⟩ ⟨i1,j1,i2,j2⟩=#[.string qn,.slice i1 qss.length j1,.slice i2 qms.length j2]:=rfl;rw [eG,eP,eQ] at hva;rw [eM] at htx;rw [eG] at hnm htm;rw [eM,eG,eP,eQ];have HVA:=hd_ hva;have HTX:=hd_ htx;have HDY:=hd_ hdy;have HNM:=hd_ hnm;have HTM:=hd_ htm;have HCH:=hd_ hch;have HH:=hd_ h;have HGG:=hd_ hg;have HLV0:Hid (lv.map (·.1)=ls):=hd_ h.lv;have HTV0:Hid (tv.map (·.1)=gts):=hd_ hg.tv;have HM:=hd_ hM;have HE:=hd_ hE;have HND:=hd_ hnd;have HL:=hd_ hlast;have HBB:=hd_ hB;have HN:=hd_ hN;have HK:=hd_ hK;have HK2:=hd_ hk2;have HJ:=hd_ hJ;have HKL:=hd_ hKl;have HJL:=hd_ hJl;have PG:=hd_ pg;clear eM eG eP eQ hva htx hdy hnm htm hch h hg hM hE hnd hns hnw hN hK hk2 hJ hpl hgn hKl hJl pg hor hlast hB hday;go_enter Tryz.func24,Tryz.ntmps24
 go_upto_region 2 with fail
 generalize hW0:(((((w.alloc (.cells #[.string id,.int .i64 o,.slice a1 cs.length c1,.string pr,.int .i64 (sn:Int),.slice a2 k2 c2,.slice a3 N c3,.slice a4 K c4] 27)).alloc (.cells #[.string pr,.string tn,.slice (some ⟨ga,oa,none⟩) pl dq1,.slice b2 grs.length dq2,.slice b3 J dq3] 30)).alloc (.cells #[.string pn,.slice ez1 pl f1,.slice ez2 pms.length f2] 34)).alloc (.cells #[.string qn,.slice i1 qss.length j1,.slice i2 qms.length j2] 34)).alloc (.cells #[.string ⟨#[]⟩,.int .i64 0,.slice none 0 0,.string ⟨#[]⟩,.int .i64 0,.slice none 0 0,.slice none 0 0,.slice none 0 0] 27)).alloc (.cells #[.string ⟨#[]⟩,.int .i64 0,.slice none 0 0,.string ⟨#[]⟩,.int .i64 0,.slice none 0 0,.slice none 0 0,.slice none 0 0] 27)=W0 at *;obtain ⟨hb,k0,k1,k2',k3,k4,k5⟩:=boxes6a hW0;have HB:=hd_ hb;have K0:=hd_ k0;have K1:=hd_ k1;have K2:=hd_ k2';have K3:=hd_ k3;have K4:=hd_ k4;have K5:=hd_ k5;clear hb k0 k1 k2' k3 k4 k5 hW0;obtain ⟨t0,t1,t2⟩:=K0.out.all;obtain ⟨u0,u1,u2⟩:=K1.out.all;obtain ⟨v0,v1,v2⟩:=K2.out.all;obtain ⟨x0,x1,x2⟩:=K3.out.all;go_wp2_with fail
 refine (HVA.out W0 HB.out).mono ?_;rintro e W1 ⟨rfl,b1'⟩;clear t0 t1 t2 u0 u1 u2 v0 v1 v2 x0 x1 x2;replace HB:=hd_ (HB.out.trans (b1'.mono HB.out.size));replace K0:=hd_ (K0.out.below b1' K0.out.lt);replace K1:=hd_ (K1.out.below b1' K1.out.lt);replace K2:=hd_ (K2.out.below b1' K2.out.lt);replace K3:=hd_ (K3.out.below b1' K3.out.lt);replace K4:=hd_ (K4.out.below b1' K4.out.lt);replace K5:=hd_ (K5.out.below b1' K5.out.lt);clear b1';obtain ⟨t0,t1,t2⟩:=K0.out.all;obtain ⟨u0,u1,u2⟩:=K1.out.all;obtain ⟨v0,v1,v2⟩:=K2.out.all;obtain ⟨x0,x1,x2⟩:=K3.out.all;go_wp2_with fail
 refine (HTX.out W1 HB.out).mono ?_;rintro e W2 ⟨rfl,b2'⟩;clear t0 t1 t2 u0 u1 u2 v0 v1 v2 x0 x1 x2;replace HB:=hd_ (HB.out.trans (b2'.mono HB.out.size));replace K0:=hd_ (K0.out.below b2' K0.out.lt);replace K1:=hd_ (K1.out.below b2' K1.out.lt);replace K2:=hd_ (K2.out.below b2' K2.out.lt);replace K3:=hd_ (K3.out.below b2' K3.out.lt);replace K4:=hd_ (K4.out.below b2' K4.out.lt);replace K5:=hd_ (K5.out.below b2' K5.out.lt);clear b2';obtain ⟨t0,t1,t2⟩:=K0.out.all;obtain ⟨u0,u1,u2⟩:=K1.out.all;obtain ⟨v0,v1,v2⟩:=K2.out.all;obtain ⟨x0,x1,x2⟩:=K3.out.all;go_wp2_with fail
 refine (HDY.out W2).mono ?_;rintro e W3 ⟨rfl,he⟩;subst he;have pgW:=((HB.out.mono HBB.out).cell (p:=⟨ga,oa+sn,none⟩) hga).trans PG.out;go_upto_region 6 with fail
 go_cut [86] (fun vx wx=>vx = .bool false∧wx=W2)
 case first=>
  cases mv with
  | nil=>
   have hk2:k2=0:=HK2.out.symm;subst hk2;go_wp2_with fail
   go_meet
   exact ⟨rfl,rfl⟩
  | cons v0' mvt=>
   obtain ⟨r,hr⟩:∃ r,(v0'::mvt)[k2 - 1]? = some r:=⟨_,List.getElem?_eq_getElem (by have:=HK2.out;simp only [List.length_cons] at this ⊢;omega)⟩;have hlr:decide (day<r)=false:=by have h9:=HL.out;unfold lastI at h9;rw [List.getLast?_eq_getElem?,HK2.out,hr] at h9;have h9:r≤day:=h9;exact decide_eq_false (by omega)
   have hk0:0<k2:=by have:=HK2.out;simp only [List.length_cons] at this;omega
   obtain ⟨k3,rfl⟩:∃ k,k2=k+1:=⟨k2 - 1,by omega⟩;obtain ⟨gm,om,hAm,hgm,pm⟩:=(HH.out.below (HB.out.mono HBB.out)).mv k3 r hr;have hAm:a2=some ⟨gm,om,none⟩:=hAm;subst hAm;have pm:W2.cell? ⟨gm,om+k3,none⟩=some (.int .i64 r):=pm;have ib:decide ((0:Int)<((k3+1:Nat):Int))=true:=decide_eq_true (by omega);have e1:wrap64 (((k3+1:Nat):Int) - 1)=(k3:Int):=by unfold wrap64;omega
   go_wp2_with fail
   go_meet
   exact ⟨rfl,rfl⟩
 case rest=>
 obtain ⟨rfl,rfl⟩:=hcut;have hbo:w.heap.size+1+1+1+1+1<wc.heap.size:=K5.out.lt;have ko:=Blk.new wc 27 #[.string id,.int .i64 o,.slice a1 cs.length c1,.string pr,.int .i64 (sn:Int),.slice a2 k2 c2,.slice a3 N c3,.slice a4 K c4];have hba:=below_self_alloc wc (.cells #[.string id,.int .i64 o,.slice a1 cs.length c1,.string pr,.int .i64 (sn:Int),.slice a2 k2 c2,.slice a3 N c3,.slice a4 K c4] 27);go_upto_region 9 with fail
 clear t0 t1 t2 u0 u1 u2 v0 v1 v2 x0 x1 x2;replace HB:=hd_ (HB.out.trans (hba.mono HB.out.size));replace K0:=hd_ (K0.out.below hba K0.out.lt);replace K1:=hd_ (K1.out.below hba K1.out.lt);replace K2:=hd_ (K2.out.below hba K2.out.lt);replace K3:=hd_ (K3.out.below hba K3.out.lt);replace K4:=hd_ (K4.out.below hba K4.out.lt);replace K5:=hd_ (K5.out.below hba K5.out.lt);clear hba;clear pgW;have RA:Hid (RaS w (wc.alloc (.cells #[.string id,.int .i64 o,.slice a1 cs.length c1,.string pr,.int .i64 (sn:Int),.slice a2 k2 c2,.slice a3 N c3,.slice a4 K c4] 27)) #[.string id,.int .i64 o,.slice a1 cs.length c1,.string pr,.int .i64 (sn:Int),.slice a2 k2 c2,.slice a3 N c3,.slice a4 K c4] #[.string pr,.string tn,.slice (some ⟨ga,oa,none⟩) pl dq1,.slice b2 grs.length dq2,.slice b3 J dq3] wc.heap.size #[.string id,.int .i64 o,.slice a1 cs.length c1,.string pr,.int .i64 (sn:Int),.slice a2 k2 c2,.slice a3 N c3,.slice a4 K c4] (.slice none 0 0) 0 [] (.slice none 0 0) 0 []):=hd_ ⟨HB.out,K0.out,K1.out,K4.out,K5.out,ko,World.ownsRow_nil _ _ _ _,World.ownsRow_nil _ _ _ _,hbo⟩;generalize wc.alloc (.cells #[.string id,.int .i64 o,.slice a1 cs.length c1,.string pr,.int .i64 (sn:Int),.slice a2 k2 c2,.slice a3 N c3,.slice a4 K c4] 27)=W3 at *;generalize wc.heap.size=bo at *;clear ko hbo HB K0 K1 K2 K3 K4 K5 HVA HTX HDY;obtain ⟨u0,u1,u2⟩:=RA.out.kg.all;obtain ⟨y0,y1,y2⟩:=RA.out.ko.all;go_upto_region 10 with fail
 have RA1:Hid (RaS w (W3.setCell ⟨bo,3,none⟩ (.string tn)) #[.string id,.int .i64 o,.slice a1 cs.length c1,.string pr,.int .i64 (sn:Int),.slice a2 k2 c2,.slice a3 N c3,.slice a4 K c4] #[.string pr,.string tn,.slice (some ⟨ga,oa,none⟩) pl dq1,.slice b2 grs.length dq2,.slice b3 J dq3] bo #[.string id,.int .i64 o,.slice a1 cs.length c1,.string tn,.int .i64 (sn:Int),.slice a2 k2 c2,.slice a3 N c3,.slice a4 K c4] (.slice none 0 0) 0 [] (.slice none 0 0) 0 []):=hd_ (RA.out.set 3 (.string tn));have PG4:=hd_ (((RA1.out.hb.mono HBB.out).cell (p:=⟨ga,oa+sn,none⟩) hga).trans PG.out);clear u0 u1 u2 y0 y1 y2 RA;generalize W3.setCell ⟨bo,3,none⟩ (.string tn)=W4 at *;obtain ⟨t0,t1,t2⟩:=RA1.out.km.all;obtain ⟨u0,u1,u2⟩:=RA1.out.kg.all;obtain ⟨y0,y1,y2⟩:=RA1.out.ko.all;have pg4:=PG4.out;go_upto_region 11 with fail
 have RA2:Hid (RaS w (W4.setCell ⟨bo,4,none⟩ (.int .i64 ns)) #[.string id,.int .i64 o,.slice a1 cs.length c1,.string pr,.int .i64 (sn:Int),.slice a2 k2 c2,.slice a3 N c3,.slice a4 K c4] #[.string pr,.string tn,.slice (some ⟨ga,oa,none⟩) pl dq1,.slice b2 grs.length dq2,.slice b3 J dq3] bo #[.string id,.int .i64 o,.slice a1 cs.length c1,.string tn,.int .i64 ns,.slice a2 k2 c2,.slice a3 N c3,.slice a4 K c4] (.slice none 0 0) 0 [] (.slice none 0 0) 0 []):=hd_ (RA1.out.set 4 (.int .i64 ns));clear t0 t1 t2 u0 u1 u2 y0 y1 y2 RA1 PG4 pg4;generalize W4.setCell ⟨bo,4,none⟩ (.int .i64 ns)=W5 at *;obtain ⟨y0,y1,y2⟩:=RA2.out.ko.all;go_upto_region 12 with fail
 have RA3:Hid (RaS w (W5.setCell ⟨bo,6,none⟩ (.slice none 0 0)) #[.string id,.int .i64 o,.slice a1 cs.length c1,.string pr,.int .i64 (sn:Int),.slice a2 k2 c2,.slice a3 N c3,.slice a4 K c4] #[.string pr,.string tn,.slice (some ⟨ga,oa,none⟩) pl dq1,.slice b2 grs.length dq2,.slice b3 J dq3] bo #[.string id,.int .i64 o,.slice a1 cs.length c1,.string tn,.int .i64 ns,.slice a2 k2 c2,.slice none 0 0,.slice a4 K c4] (.slice none 0 0) 0 [] (.slice none 0 0) 0 []):=hd_ (RA2.out.set 6 (.slice none 0 0));clear y0 y1 y2 RA2;generalize W5.setCell ⟨bo,6,none⟩ (.slice none 0 0)=W6 at *;obtain ⟨t0,t1,t2⟩:=RA3.out.km.all;go_wp2_with fail
 go_loopg [16] N (fun nn i wr=>∃ (k:Nat) (A:Option Addr) (c:Nat),k+nn=N∧i = .int .i64 (k:Int)∧Hid (RaS w wr #[.string id,.int .i64 o,.slice a1 cs.length c1,.string pr,.int .i64 (sn:Int),.slice a2 k2 c2,.slice a3 N c3,.slice a4 K c4] #[.string pr,.string tn,.slice (some ⟨ga,oa,none⟩) pl dq1,.slice b2 grs.length dq2,.slice b3 J dq3] bo #[.string id,.int .i64 o,.slice a1 cs.length c1,.string tn,.int .i64 ns,.slice a2 k2 c2,.slice A (mergeR grs (rs.take k)).length c,.slice a4 K c4] (.slice A (mergeR grs (rs.take k)).length c) (mergeR grs (rs.take k)).length (mergeR grs (rs.take k)) (.slice none 0 0) 0 []))
 case atStart=>exact ⟨0,none,0,Nat.zero_add _,rfl,RA3⟩
 case round=>
  clear RA3 t0 t1 t2;obtain ⟨k,A,c,hk,rfl,RA⟩:=hrel;obtain ⟨t0,t1,t2⟩:=RA.out.km.all;by_cases hlt:k<N
  · obtain ⟨mm,rfl⟩:∃ m,gk=m+1:=⟨gk - 1,by omega⟩
    obtain ⟨r,hr⟩:∃ r,rs[k]? = some r:=⟨_,List.getElem?_eq_getElem (by rw [HN.out];exact hlt)⟩;obtain ⟨rn,rsn⟩:=r;obtain ⟨g5,o5,hA,hg5,p0,p1⟩:=(HH.out.below (RA.out.hb.mono HBB.out)).rs k _ hr;have hA:a3=some ⟨g5,o5,none⟩:=hA;subst hA;have P0:Hid (wr.cell? ⟨g5,o5+k*2,none⟩=some (.string rn)):=hd_ p0;have P1:Hid (wr.cell? ⟨g5,o5+k*2+1,none⟩=some (.int .i64 rsn)):=hd_ p1;have PGL:Hid (g5<wr.heap.size):=hd_ (Nat.lt_of_lt_of_le hg5 (Nat.le_trans HBB.out RA.out.hb.size));have hnx:=mergeR_take (rs:=grs) hr;have hol:=mergeR_len grs (rs.take k);rw [List.length_take] at hol;obtain ⟨out,ho⟩:∃ out,mergeR grs (rs.take k)=out:=⟨_,rfl⟩;obtain ⟨nn,hnn⟩:∃ nn,namedL grs rn=nn:=⟨_,rfl⟩;rw [ho] at hnx hol RA;simp only [hnn] at hnx;obtain ⟨on,hon⟩:∃ n,out.length=n:=⟨_,rfl⟩;rw [hon] at hol RA;have HON:=hd_ hon
    have hren:∀ V,PSv wr V→Calls Tryz.prog 21 #[.agg #[.string pr,.string tn,.slice (some ⟨ga,oa,none⟩) pl dq1,.slice b2 grs.length dq2,.slice b3 J dq3],.string rn] V fun e w'=>e = .returned (.string nn)∧Below V.heap.size V w':=fun V hV=>by
     have:=HNM.out V (RA.out.hb.trans (Below.mono hV RA.out.hb.size)) rn;rwa [hnn] at this
    have HREN:=hd_ hren;have HNX:=hd_ hnx;have ib0:(0:Int)≤(k:Int):=by omega
    have ib1:(k:Int)<(N:Int):=by omega
    clear hr hnx ho hnn hren p0 p1 hg5 hon;go_upto_region 15 with fail
    clear t0 t1 t2;refine wp_region_rg2 (PSv wr) (RX wr.heap.size 56 2 (fun cs=>cs=#[.string nn,.int .i64 rsn])) ([isV (.agg #[.string pr,.string tn,.slice (some ⟨ga,oa,none⟩) pl dq1,.slice b2 grs.length dq2,.slice b3 J dq3]),isV (.pointer (some ⟨w.heap.size,6,none⟩)),isV (.slice (some ⟨g5,o5,none⟩) N c3),isV (.int .i64 (k:Int)),isV (.pointer (some ⟨g5,o5+k*2,none⟩)),isV (.pointer (some ⟨g5,o5+k*2,none⟩)),isV (.string rn),isV (.string nn),isV (.pointer (some ⟨w.heap.size,6,none⟩)),isV (.slice (some ⟨g5,o5,none⟩) N c3),isV (.int .i64 (k:Int)),isV (.pointer (some ⟨g5,o5+k*2,none⟩)),isV (.pointer (some ⟨g5,o5+k*2+1,none⟩)),isV (.int .i64 rsn),isV (.agg #[.string nn,.int .i64 rsn]),ptrX wr.heap.size 56 2,finX wr.heap.size 56 (fun cs=>cs=#[.string nn,.int .i64 rsn]) 15]) [0,1,2,3,4,5,6,7,8,9,10,11,12,13,14,15,16] (by kernel_rfl) (by kernel_rfl) (by kernel_rfl) (below_drewM wr) ⟨isV_mono _,isV_mono _,isV_mono _,isV_mono _,isV_mono _,isV_mono _,isV_mono _,isV_mono _,isV_mono _,isV_mono _,isV_mono _,isV_mono _,isV_mono _,isV_mono _,isV_mono _,ptrX_mono _ _ _ _,finX_mono _ _ _ _ 15,trivial⟩ ?_;intro F hF;simp only [putAll,List.map_cons,List.map_nil,Act.put,List.setIfInBounds_toArray,List.set_cons_succ,List.set_cons_zero] at hF;have HFX:=hd_ hF;clear hF;refine ⟨fun Q'=>⟨?_,?_,?_,?_,?_,?_,?_,?_,?_,?_,?_,?_,?_,?_,?_,?_,?_,trivial⟩,?_⟩
    · intro u W hS hd hp
      have HS:=hd_ hS;clear hS;rw [HFX.out];clear hd hp;obtain ⟨r0,r1,r2⟩:=(RA.out.below HS.out).kg.all;go_wp2_with fail
      exact ⟨_,by rw [HFX.out];simp [upd],rfl,HS.out,RX.of_below (Below.refl _ _)⟩
    · intro u W hS hd hp
      have HS:=hd_ hS;clear hS;rw [HFX.out];clear hd hp;go_wp2_with fail
      exact ⟨_,by rw [HFX.out];simp [upd],rfl,HS.out,RX.of_below (Below.refl _ _)⟩
    · intro u W hS hd hp
      have HS:=hd_ hS;clear hS;obtain ⟨d1,-⟩:=hd;have e1:u 1 = .pointer (some ⟨w.heap.size,6,none⟩):=d1 rfl;rw [HFX.out];simp only [e1];clear hp d1;obtain ⟨r0,r1,r2⟩:=(RA.out.below HS.out).km.all;go_wp2_with fail
      exact ⟨_,by rw [HFX.out];simp [upd,e1],rfl,HS.out,RX.of_below (Below.refl _ _)⟩
    · intro u W hS hd hp
      have HS:=hd_ hS;clear hS;rw [HFX.out];clear hd hp;go_wp2_with fail
      exact ⟨_,by rw [HFX.out];simp [upd],rfl,HS.out,RX.of_below (Below.refl _ _)⟩
    · intro u W hS hd hp
      have HS:=hd_ hS;clear hS;obtain ⟨d2,d3,-⟩:=hd;have e2:u 2 = .slice (some ⟨g5,o5,none⟩) N c3:=d2 rfl;have e3:u 3 = .int .i64 (k:Int):=d3 rfl;rw [HFX.out];simp only [e2,e3];clear hp d2 d3;have ib0:=ib0;have ib1:=ib1;go_wp2_with fail
      exact ⟨_,by rw [HFX.out];simp [upd,e2,e3],rfl,HS.out,RX.of_below (Below.refl _ _)⟩
    · intro u W hS hd hp
      have HS:=hd_ hS;clear hS;obtain ⟨d4,-⟩:=hd;have e4:u 4 = .pointer (some ⟨g5,o5+k*2,none⟩):=d4 rfl;rw [HFX.out];simp only [e4];clear hp d4;go_wp2_with fail
      exact ⟨_,by rw [HFX.out];simp [upd,e4],rfl,HS.out,RX.of_below (Below.refl _ _)⟩
    · intro u W hS hd hp
      have HS:=hd_ hS;clear hS;obtain ⟨d5,-⟩:=hd;have e5:u 5 = .pointer (some ⟨g5,o5+k*2,none⟩):=d5 rfl;rw [HFX.out];simp only [e5];clear hp d5;have r0:=(HS.out.cell (p:=⟨g5,o5+k*2,none⟩) PGL.out).trans P0.out;go_wp2_with fail
      exact ⟨_,by rw [HFX.out];simp [upd,e5],rfl,HS.out,RX.of_below (Below.refl _ _)⟩
    · intro u W hS hd hp
      have HS:=hd_ hS;clear hS;obtain ⟨d0,d6,-⟩:=hd;have e0:u 0 = .agg #[.string pr,.string tn,.slice (some ⟨ga,oa,none⟩) pl dq1,.slice b2 grs.length dq2,.slice b3 J dq3]:=d0 rfl;have e6:u 6 = .string rn:=d6 rfl;rw [HFX.out];simp only [e0,e6];clear hp d0 d6;have HC:=hd_ (HREN.out W HS.out);go_wp2_with fail
      refine HC.out.mono ?_;rintro e W2 ⟨rfl,b2⟩;go_wp2_with fail
      exact ⟨_,by rw [HFX.out];simp [upd,e0,e6],rfl,PSv.go HS.out b2,RX.of_below b2⟩
    · intro u W hS hd hp
      have HS:=hd_ hS;clear hS;rw [HFX.out];clear hd hp;go_wp2_with fail
      exact ⟨_,by rw [HFX.out];simp [upd],rfl,HS.out,RX.of_below (Below.refl _ _)⟩
    · intro u W hS hd hp
      have HS:=hd_ hS;clear hS;obtain ⟨d8,-⟩:=hd;have e8:u 8 = .pointer (some ⟨w.heap.size,6,none⟩):=d8 rfl;rw [HFX.out];simp only [e8];clear hp d8;obtain ⟨r0,r1,r2⟩:=(RA.out.below HS.out).km.all;go_wp2_with fail
      exact ⟨_,by rw [HFX.out];simp [upd,e8],rfl,HS.out,RX.of_below (Below.refl _ _)⟩
    · intro u W hS hd hp
      have HS:=hd_ hS;clear hS;rw [HFX.out];clear hd hp;go_wp2_with fail
      exact ⟨_,by rw [HFX.out];simp [upd],rfl,HS.out,RX.of_below (Below.refl _ _)⟩
    · intro u W hS hd hp
      have HS:=hd_ hS;clear hS;obtain ⟨d9,d10,-⟩:=hd;have e9:u 9 = .slice (some ⟨g5,o5,none⟩) N c3:=d9 rfl;have e10:u 10 = .int .i64 (k:Int):=d10 rfl;rw [HFX.out];simp only [e9,e10];clear hp d9 d10;have ib0:=ib0;have ib1:=ib1;go_wp2_with fail
      exact ⟨_,by rw [HFX.out];simp [upd,e9,e10],rfl,HS.out,RX.of_below (Below.refl _ _)⟩
    · intro u W hS hd hp
      have HS:=hd_ hS;clear hS;obtain ⟨d11,-⟩:=hd;have e11:u 11 = .pointer (some ⟨g5,o5+k*2,none⟩):=d11 rfl;rw [HFX.out];simp only [e11];clear hp d11;go_wp2_with fail
      exact ⟨_,by rw [HFX.out];simp [upd,e11],rfl,HS.out,RX.of_below (Below.refl _ _)⟩
    · intro u W hS hd hp
      have HS:=hd_ hS;clear hS;obtain ⟨d12,-⟩:=hd;have e12:u 12 = .pointer (some ⟨g5,o5+k*2+1,none⟩):=d12 rfl;rw [HFX.out];simp only [e12];clear hp d12;have r0:=(HS.out.cell (p:=⟨g5,o5+k*2+1,none⟩) PGL.out).trans P1.out;go_wp2_with fail
      exact ⟨_,by rw [HFX.out];simp [upd,e12],rfl,HS.out,RX.of_below (Below.refl _ _)⟩
    · intro u W hS hd hp
      have HS:=hd_ hS;clear hS;obtain ⟨d7,d13,-⟩:=hd;have e7:u 7 = .string nn:=d7 rfl;have e13:u 13 = .int .i64 rsn:=d13 rfl;rw [HFX.out];simp only [e7,e13];clear hp d7 d13;go_wp2_with fail
      exact ⟨_,by rw [HFX.out];simp [upd,e7,e13],rfl,HS.out,RX.of_below (Below.refl _ _)⟩
    · intro u W hS hd hp
      have HS:=hd_ hS;clear hS;rw [HFX.out];clear hd hp;have kn:=Blk.new W 56 #[.string ⟨#[]⟩,.int .i64 0];have bn0:=below_self_alloc W (.cells #[.string ⟨#[]⟩,.int .i64 0] 56);go_wp2_with fail
      exact ⟨_,by rw [HFX.out];simp [upd],⟨_,rfl,Below.size HS.out,_,kn,rfl⟩,PSv.go HS.out bn0,RX.of_below bn0⟩
    · intro u W hS hd hp
      have HS:=hd_ hS;clear hS;obtain ⟨d15,d14,-⟩:=hd;obtain ⟨g15,e15,gb15,gm15⟩:(ptrX wr.heap.size 56 2).p (u 15) (u 15) W:=d15 rfl;have e14:u 14 = .agg #[.string nn,.int .i64 rsn]:=d14 rfl;rw [HFX.out];simp only [e15,e14];clear hp d15 d14;obtain ⟨cs0,km0,ks0⟩:=gm15;have HST:=hd_ (RX.store (base:=wr.heap.size) (t:=56) (n:=2) (Fin:=(fun cs=>cs=#[.string nn,.int .i64 rsn])) gb15 ⟨cs0,km0,ks0⟩ only_row (blk_row km0) rfl rfl);go_wp2_with (refine wp_rowR rfl (.tmp 17) (.tmp 121) rfl g15 #[.string nn,.int .i64 rsn] rfl rfl rfl one2 ks0 km0 ?_)
      exact ⟨undef,by rw [HFX.out];simp [upd,e15,e14] <;> rfl,⟨g15,(show upd u 16 undef 15=_ from by simp [upd,e15]),gb15,HST.out.2⟩,PSv.go2 HS.out gb15,HST.out.1⟩
    intro u W hS hf;obtain ⟨rb,e15,hrb,cfin,hcs,kb⟩:(finX wr.heap.size 56 (fun cs=>cs=#[.string nn,.int .i64 rsn]) 15).p (u 15) (u 16) W:=hf 16 (by decide);subst hcs;rw [HFX.out];simp only [e15];clear e15 hf HFX F P0 P1 PGL HREN;have hne:∀ b,(Value.slice A on c).ownBlock=some b→¬ b=rb:=fun b hb he=>by have:=(RA.out.or_.lt b hb).2;omega
    have HNE:=hd_ hne;replace RA:=hd_ (RA.out.below hS);have KB:=hd_ kb;clear kb hS hne hrb;obtain ⟨y0,y1,y2⟩:=RA.out.ko.all;go_wp2_with fail
    go_loopg [18,19] on (fun n2 fv i wr=>∃ (t:Nat) (q:Bool),t+n2=on∧fv = .bool q∧i = .int .i64 (t:Int)∧Hid (q=true↔nn∈(out.take t).map (·.1))∧Hid (RaS w wr #[.string id,.int .i64 o,.slice a1 cs.length c1,.string pr,.int .i64 (sn:Int),.slice a2 k2 c2,.slice (some ⟨g5,o5,none⟩) N c3,.slice a4 K c4] #[.string pr,.string tn,.slice (some ⟨ga,oa,none⟩) pl dq1,.slice b2 grs.length dq2,.slice b3 J dq3] bo #[.string id,.int .i64 o,.slice a1 cs.length c1,.string tn,.int .i64 ns,.slice a2 k2 c2,.slice A on c,.slice a4 K c4] (.slice A on c) on (putT out nn rsn t) (.slice none 0 0) 0 [])∧Hid (Blk wr rb 56 #[.string nn,.int .i64 rsn]))
    case atStart=>exact ⟨0,false,Nat.zero_add _,rfl,rfl,hd_ (by simp),RA,KB⟩
    case round=>
     clear RA KB y0 y1 y2;obtain ⟨t,q,ht,rfl,rfl,HQ,RA,KB⟩:=hrel;obtain ⟨y0,y1,y2⟩:=RA.out.ko.all;obtain ⟨v0,v1,v2⟩:=KB.out.all;by_cases hlt2:t<on
     · obtain ⟨m2,rfl⟩:∃ m,gk=m+1:=⟨gk - 1,by omega⟩
       obtain ⟨x,hx⟩:∃ x,out[t]? = some x:=⟨_,List.getElem?_eq_getElem (by rw [HON.out];exact hlt2)⟩;obtain ⟨xn,xs⟩:=x;obtain ⟨gA,hA,hgA,hgl⟩:=row_some RA.out.or_ (by omega);subst hA;have hxa:=putT_at (n:=nn) (s:=rsn) hx;have q0:=RA.out.or_.cellAt (t*2) (by omega);rw [(rtCells_at _ t _ hxa).1] at q0;have q1:=RA.out.or_.cellAt (t*2+1) (by omega);rw [(rtCells_at _ t _ hxa).2] at q1;have q0:wr.cell? ⟨gA,t*2,none⟩=some (.string xn):=q0;have q1:wr.cell? ⟨gA,t*2+1,none⟩=some (.int .i64 xs):=q1;have jb0:(0:Int)≤(t:Int):=by omega
       have jb1:(t:Int)<(on:Int):=by omega
       have Q0:=hd_ q0;have Q1:=hd_ q1;have HX:=hd_ hx;have HXA:=hd_ hxa
       have hqn:∀ q2:Bool,(q2=true↔(q=true∨xn=nn))→(q2=true↔nn∈(out.take (t+1)).map (·.1)):=fun q2 h=>by
        rw [h,HQ.out,take_snoc' hx,List.map_append,List.mem_append];exact or_congr Iff.rfl ⟨fun e=>by simp [e],fun e=>by simpa using (show nn=xn by simpa using e).symm⟩
       have HQN:=hd_ hqn;clear hx hxa hqn;go_upto_region 20 with fail
       by_cases he:xn=nn
       · subst he
         have HP:=hd_ (putT_yes (s:=rsn) HX.out rfl);have HQ2:=hd_ (HQN.out true (by simp));go_quiet (fail)
         have RA2:=hd_ (RA.out.below (Lim.below_dN (Below.refl _ wr) nq));have KB2:=hd_ (KB.out.below (Lim.below_dN (Below.refl _ wr) nq) KB.out.lt);clear RA KB q0 q1 y0 y1 y2 v0 v1 v2;generalize wr.drewN nq=W1 at *;have q0:=RA2.out.or_.cellAt (t*2) (by omega);rw [(rtCells_at _ t _ HXA.out).1] at q0;have q1:=RA2.out.or_.cellAt (t*2+1) (by omega);rw [(rtCells_at _ t _ HXA.out).2] at q1;have q1:W1.cell? ⟨gA,t*2+1,none⟩=some (.int .i64 xs):=q1;have fz:=RA2.out.or_.frozenAt (t*2+1);have hmn:=run_min2 (P:=Tryz.prog) xs rsn _ rfl;obtain ⟨y0,y1,y2⟩:=RA2.out.ko.all;obtain ⟨v0,v1,v2⟩:=KB2.out.all;go_upto_region 21 with fail
         refine wp_region_tail 14 (by kernel_rfl) (by kernel_rfl) ?_;simp only [List.take_succ_cons,List.take_zero,List.drop_succ_cons,List.drop_zero]
         repeat still_step
         refine wpStill_nil ?_;go_wp2
         have hstore:=RA2.out.or_.stored (t*2+1) (.int .i64 (min xs rsn));have ra4:=(RA2.out.right (rr':=putT out xn rsn (t+1)) (by rw [HP.out,rtCells_set _ t (xn,xs) (min xs rsn) HXA.out];exact hstore.1) hstore.2).below (below_drewM _);have kb3:=(Only.of_grown hstore.2).blk KB2.out (fun f=>HNE.out _ f rfl);have kb4:=kb3.below (below_drewM _) kb3.lt;have RA4:=hd_ ra4;have KB4:=hd_ kb4;clear ra4 kb3 kb4 hstore;go_roundg m2
         case rel=>exact ⟨t+1,true,by omega,rfl,by go_num,by simpa using HQ2,RA4,KB4⟩
         case measure=>omega
       · have es:=str_no he
         have HP:=hd_ (putT_no (s:=rsn) HX.out he);have HQ2:=hd_ (HQN.out q (by simp [he]));clear he;go_quiet (fail)
         have RA2:=hd_ (RA.out.below (Lim.below_dN (Below.refl _ wr) nq));have KB2:=hd_ (KB.out.below (Lim.below_dN (Below.refl _ wr) nq) KB.out.lt);clear RA KB q0 q1 y0 y1 y2 v0 v1 v2;go_wp2
         go_roundg m2
         case rel=>exact ⟨t+1,q,by omega,rfl,by go_num,HQ2,by rw [HP.out];exact RA2,KB2⟩
         case measure=>omega
     · obtain rfl:gk=0:=by omega
       obtain rfl:t=on:=by omega
       have nb2:¬ (t:Int)<(t:Int):=by omega
       have HQ3:Hid (q=true↔nn∈out.map (·.1)):=hd_ (by have:=HQ.out;rwa [List.take_of_length_le (by rw [HON.out];exact Nat.le_refl _)] at this);clear HQ hlt2 ht
       cases q with
       | true=>
        have hp:=putT_in (s:=rsn) (HQ3.out.1 rfl);rw [HON.out] at hp;have hn2:=HNX.out.trans hp;have HN2:=hd_ hn2;have hl2:(mergeR grs (rs.take (k+1))).length=t:=by rw [hn2,putT_len];exact HON.out
        have HL2:=hd_ hl2;clear hp hn2 hl2 HQ3;go_wp2
        go_roundg mm
        case rel=>exact ⟨k+1,A,c,by omega,by go_num,by rw [HL2.out,HN2.out];exact RA⟩
        case measure=>omega
       | false=>
        have hno:nn∉out.map (·.1):=fun h=>by have:=HQ3.out.2 h;cases this
        rw [putT_out hno] at RA;have hn2:=HNX.out.trans (putR_out hno);have HN2:=hd_ hn2;have hl2:(mergeR grs (rs.take (k+1))).length=t+1:=by rw [hn2,List.length_append,HON.out];rfl
        have HL2:=hd_ hl2;clear hno hn2 hl2 HQ3;have kn:=Blk.new wr 56 #[.string nn,.int .i64 rsn];have RS3:=hd_ (RA.out.below (below_self_alloc wr (.cells #[.string nn,.int .i64 rsn] 56)));have own3:=RS3.out.or_;have hba:=RS3.out.hb.size;go_upto_region 14 with (at_builtin;refine wpList_append_lies _ rfl _ _ 24 rfl w.heap.size 56 i0 _ 2 24 Tryz.underlying24 hi0 hz0 hz1 hz2 rfl (by omega) (.slice A t c) t (rtCells out) rfl own3 ⟨wr.heap.size,0,none⟩ 1 1 [.string nn,.int .i64 rsn] rfl rfl (World.news_of_block kn) (rtCells_one [(nn,rsn)]) (by omega) (by unfold maxLen;omega) (by omega) hba _ rfl ?_;intro gz cz Y own4 gr4 l4 z4;have rs4:=RS3.out.right (rr':=out++[(nn,rsn)]) (by rw [rtCells_app];exact own4) gr4;have RS4:=hd_ rs4;clear y0 y1 y2;obtain ⟨y0,y1,y2⟩:=rs4.ko.all;clear rs4 own4 gr4 l4 own3 kn)
        have RS5:=hd_ (RS4.out.set 6 (.slice (some ⟨gz,0,none⟩) (t+1) cz));clear RS3 RS4 RA KB y0 y1 y2 v0 v1 v2 hba nb2;go_wp2
        go_roundg mm
        case rel=>exact ⟨k+1,some ⟨gz,0,none⟩,cz,by omega,by go_num,by rw [HL2.out,HN2.out];exact RS5⟩
        case measure=>omega
  · obtain rfl:gk=0:=by omega
    obtain rfl:N=k:=by omega
    have nb:¬ (N:Int)<(N:Int):=by omega
    rw [List.take_of_length_le (by rw [HN.out];exact Nat.le_refl _)] at RA;have hma:=mergeR_len grs rs;obtain ⟨out,ho⟩:∃ out,mergeR grs rs=out:=⟨_,rfl⟩;rw [ho] at RA hma;obtain ⟨on,hon⟩:∃ n,out.length=n:=⟨_,rfl⟩;rw [hon] at RA hma;have HO:=hd_ ho;have HON:=hd_ hon;clear ho hon hlt hk;obtain ⟨y0,y1,y2⟩:=RA.out.ko.all;go_upto_region 26 with fail
    have RA4:Hid (RaS w (wr.setCell ⟨bo,7,none⟩ (.slice none 0 0)) #[.string id,.int .i64 o,.slice a1 cs.length c1,.string pr,.int .i64 (sn:Int),.slice a2 k2 c2,.slice a3 N c3,.slice a4 K c4] #[.string pr,.string tn,.slice (some ⟨ga,oa,none⟩) pl dq1,.slice b2 grs.length dq2,.slice b3 J dq3] bo #[.string id,.int .i64 o,.slice a1 cs.length c1,.string tn,.int .i64 ns,.slice a2 k2 c2,.slice A on c,.slice none 0 0] (.slice A on c) on out (.slice none 0 0) 0 []):=hd_ (RA.out.set 7 (.slice none 0 0));clear nb t0 t1 t2 y0 y1 y2 RA;generalize wr.setCell ⟨bo,7,none⟩ (.slice none 0 0)=W7 at *;obtain ⟨t0,t1,t2⟩:=RA4.out.km.all;go_wp2_with fail
    go_loopg [20] K (fun nn i wr=>∃ (j:Nat) (A2:Option Addr) (q2:Nat) (lk:List LmV),j+nn=K∧i = .int .i64 (j:Int)∧Hid (lk.length=j)∧Hid (RaS w wr #[.string id,.int .i64 o,.slice a1 cs.length c1,.string pr,.int .i64 (sn:Int),.slice a2 k2 c2,.slice a3 N c3,.slice a4 K c4] #[.string pr,.string tn,.slice (some ⟨ga,oa,none⟩) pl dq1,.slice b2 grs.length dq2,.slice b3 J dq3] bo #[.string id,.int .i64 o,.slice a1 cs.length c1,.string tn,.int .i64 ns,.slice a2 k2 c2,.slice A on c,.slice A2 j q2] (.slice A on c) on out (.slice A2 j q2) j lk)∧Hid (LimA gts day l lv j lk)∧Hid (∀ x∈lk,LmAt w B x.2.1 x.1)∧Hid (∀ y∈ls.take j,(chgS gts day l y).2=0))
    case atStart=>exact ⟨0,none,0,[],Nat.zero_add _,rfl,hd_ rfl,RA4,hd_ rfl,hd_ (by simp),hd_ (by simp)⟩
    case round=>
     clear RA4 t0 t1 t2;obtain ⟨j,A2,q2,lk,hj,rfl,HLK,RA,LK,LA,LE⟩:=hrel;obtain ⟨t0,t1,t2⟩:=RA.out.km.all;by_cases hlt:j<K
     · obtain ⟨mm,rfl⟩:∃ m,gk=m+1:=⟨gk - 1,by omega⟩
       obtain ⟨x,hx⟩:∃ x,lv[j]? = some x:=⟨_,List.getElem?_eq_getElem (by rw [HKL.out];exact hlt)⟩;obtain ⟨g5,o5,hA,hg5,p0,p1,p2,p3,p4,-⟩:=(HH.out.below (RA.out.hb.mono HBB.out)).ls j x hx;have hA:a4=some ⟨g5,o5,none⟩:=hA;subst hA;have HXL:Hid (ls[j]? = some x.1):=hd_ (by rw [← HLV0.out,List.getElem?_map,hx];rfl);have HXM:Hid (x∈lv):=hd_ (List.mem_of_getElem? hx);have HX:=hd_ hx;have ib0:(0:Int)≤(j:Int):=by omega
       have ib1:(j:Int)<(K:Int):=by omega
       have kb:=Blk.new wr 44 #[.string x.1.id,.int .i64 x.1.n,.int .i64 x.1.u,.int .i64 x.1.f,.slice x.2.1 x.1.S.length x.2.2];have b0:=below_self_alloc wr (.cells #[.string x.1.id,.int .i64 x.1.n,.int .i64 x.1.u,.int .i64 x.1.f,.slice x.2.1 x.1.S.length x.2.2] 44);obtain ⟨tv0,htv0⟩:∃ n,termI gts x.1.id=n:=⟨_,rfl⟩;have HTV:=hd_ htv0;clear hx htv0;go_upto_region 30 with fail
       have RA5:=hd_ (RA.out.below b0);have KB:=hd_ kb;have HLO:=hd_ RA.out.ko.lt;have hn1:∀ b,(Value.slice A on c).ownBlock=some b→¬ b=wr.heap.size:=fun b hb he=>by have:=(RA.out.or_.lt b hb).2;omega
       have hn2:∀ b,(Value.slice A2 j q2).ownBlock=some b→¬ b=wr.heap.size:=fun b hb he=>by have:=(RA.out.ol.lt b hb).2;omega
       have HN1:=hd_ hn1;have HN2:=hd_ hn2;clear hn1 hn2;clear RA kb b0 p0 p1 p2 p3 p4 t0 t1 t2 hg5;generalize wr.alloc (.cells #[.string x.1.id,.int .i64 x.1.n,.int .i64 x.1.u,.int .i64 x.1.f,.slice x.2.1 x.1.S.length x.2.2] 44)=W8 at *;generalize wr.heap.size=lb at *;obtain ⟨u0,u1,u2⟩:=RA5.out.kg.all;obtain ⟨v0,v1,v2⟩:=KB.out.all;have htm:=HTM.out W8 RA5.out.hb x.1.id;rw [HTV.out] at htm;have HTC:=hd_ htm;clear htm;go_wp2_with fail
       refine HTC.out.mono ?_;rintro e W9 ⟨rfl,b9⟩;replace RA5:=hd_ (RA5.out.below b9);replace KB:=hd_ (KB.out.below b9 KB.out.lt);clear b9 u0 u1 u2 v0 v1 v2 HTC;by_cases h0:0≤tv0
       · obtain ⟨kk,rfl⟩:∃ n:Nat,tv0=(n:Int):=⟨tv0.toNat,by omega⟩
         have hkJ:kk<J:=by rw [← HJ.out];exact termI_lt HTV.out
         obtain ⟨t,ht⟩:∃ t,tv[kk]? = some t:=⟨_,List.getElem?_eq_getElem (by rw [HJL.out];exact hkJ)⟩;have htg:gts[kk]? = some t.1:=by rw [← HTV0.out,List.getElem?_map,ht];rfl
         have hto:=termOf_I HTV.out htg;obtain ⟨g6,o6,hA,hg6,r0,r1,r2,r3,-⟩:=(HGG.out.below (RA5.out.hb.mono HBB.out)).ts kk t ht;have hA:b3=some ⟨g6,o6,none⟩:=hA;subst hA;obtain ⟨⟨ti,tk,tu,tf,tS⟩,tA,tc⟩:=t;have P1:Hid (W9.cell? ⟨g6,o6+kk*5+1,none⟩=some (.int .i64 tk)):=hd_ r1;have P2:Hid (W9.cell? ⟨g6,o6+kk*5+2,none⟩=some (.int .i64 tu)):=hd_ r2;have P3:Hid (W9.cell? ⟨g6,o6+kk*5+3,none⟩=some (.int .i64 tf)):=hd_ r3;have PGL:Hid (g6<W9.heap.size):=hd_ (Nat.lt_of_lt_of_le hg6 (Nat.le_trans HBB.out RA5.out.hb.size));obtain ⟨r,hr⟩:∃ r,changeS x.1 day tk tu tf l=r:=⟨_,rfl⟩;have hcg:chgS gts day l x.1=r:=by unfold chgS;rw [hto];exact hr
         have hcc:∀ V,PSv W9 V→Calls Tryz.prog 57 #[.agg #[.string x.1.id,.int .i64 x.1.n,.int .i64 x.1.u,.int .i64 x.1.f,.slice x.2.1 x.1.S.length x.2.2],.int .i64 day,.agg #[.int .i64 tk,.int .i64 tu],.int .i64 tf,.slice D l.length cl] V (LmPostB V B r):=fun V hV=>by
          have:=HCH.out V (RA5.out.hb.trans (Below.mono hV RA5.out.hb.size)) x HXM.out tk tu tf;rwa [hr] at this
         have HCC:=hd_ hcc;have HCG:=hd_ hcg;obtain ⟨r1',r2'⟩:=r;have jb0:(0:Int)≤(kk:Int):=by omega
         have jb1:(kk:Int)<(J:Int):=by omega
         have c0:decide ((0:Int)≤(kk:Int))=true:=decide_eq_true jb0;clear ht htg hto r0 r1 r2 r3 hg6 hr hcg hcc;go_upto_region 32 with fail
         clear c0;refine wp_region_rg2 (PSv W9) (RX W9.heap.size 44 5 (fun cs=>∃ (A9:Option Addr) (c9:Nat),cs=#[.string r1'.id,.int .i64 r1'.n,.int .i64 r1'.u,.int .i64 r1'.f,.slice A9 r1'.S.length c9]∧StopsAt w B A9 r1'.S)) ([isV (.agg #[.string x.1.id,.int .i64 x.1.n,.int .i64 x.1.u,.int .i64 x.1.f,.slice x.2.1 x.1.S.length x.2.2]),isV (.int .i64 day),isV (.pointer (some ⟨w.heap.size+1,4,none⟩)),isV (.slice (some ⟨g6,o6,none⟩) J dq3),isV (.int .i64 (kk:Int)),isV (.pointer (some ⟨g6,o6+kk*5,none⟩)),isV (.pointer (some ⟨g6,o6+kk*5+1,none⟩)),isV (.agg #[.int .i64 tk,.int .i64 tu]),isV (.pointer (some ⟨w.heap.size+1,4,none⟩)),isV (.slice (some ⟨g6,o6,none⟩) J dq3),isV (.int .i64 (kk:Int)),isV (.pointer (some ⟨g6,o6+kk*5,none⟩)),isV (.pointer (some ⟨g6,o6+kk*5+3,none⟩)),isV (.int .i64 tf),isV (.slice D l.length cl),pV (fun v=>∃ (A9:Option Addr) (c9:Nat),v = .tuple #[.agg #[.string r1'.id,.int .i64 r1'.n,.int .i64 r1'.u,.int .i64 r1'.f,.slice A9 r1'.S.length c9],.int .i64 r2']∧StopsAt w B A9 r1'.S),pV (fun v=>∃ (A9:Option Addr) (c9:Nat),v = .tuple #[.agg #[.string r1'.id,.int .i64 r1'.n,.int .i64 r1'.u,.int .i64 r1'.f,.slice A9 r1'.S.length c9],.int .i64 r2']∧StopsAt w B A9 r1'.S),pV (fun v=>∃ (A9:Option Addr) (c9:Nat),v = .agg #[.string r1'.id,.int .i64 r1'.n,.int .i64 r1'.u,.int .i64 r1'.f,.slice A9 r1'.S.length c9]∧StopsAt w B A9 r1'.S),isV (.int .i64 r2'),ptrX W9.heap.size 44 5,finX W9.heap.size 44 (fun cs=>∃ (A9:Option Addr) (c9:Nat),cs=#[.string r1'.id,.int .i64 r1'.n,.int .i64 r1'.u,.int .i64 r1'.f,.slice A9 r1'.S.length c9]∧StopsAt w B A9 r1'.S) 19,isV (.int .i64 r2')]) [0,1,2,3,4,5,6,7,8,9,10,11,12,13,14,15,16,17,18,19,20,21] (by kernel_rfl) (by kernel_rfl) (by kernel_rfl) (below_drewM W9) ⟨isV_mono _,isV_mono _,isV_mono _,isV_mono _,isV_mono _,isV_mono _,isV_mono _,isV_mono _,isV_mono _,isV_mono _,isV_mono _,isV_mono _,isV_mono _,isV_mono _,isV_mono _,pV_mono _,pV_mono _,pV_mono _,isV_mono _,ptrX_mono _ _ _ _,finX_mono _ _ _ _ 19,isV_mono _,trivial⟩ ?_;intro F hF;simp only [putAll,List.map_cons,List.map_nil,Act.put,List.setIfInBounds_toArray,List.set_cons_succ,List.set_cons_zero] at hF;have HFX:=hd_ hF;clear hF;refine ⟨fun Q'=>⟨?_,?_,?_,?_,?_,?_,?_,?_,?_,?_,?_,?_,?_,?_,?_,?_,?_,?_,?_,?_,?_,?_,trivial⟩,?_⟩
         · intro u W hS hd hp
           have HS:=hd_ hS;clear hS;rw [HFX.out];clear hd hp;obtain ⟨r0,r1,r2⟩:=(KB.out.below HS.out KB.out.lt).all;go_wp2_with fail
           exact ⟨_,by rw [HFX.out];simp [upd],rfl,HS.out,RX.of_below (Below.refl _ _)⟩
         · intro u W hS hd hp
           have HS:=hd_ hS;clear hS;rw [HFX.out];clear hd hp;go_wp2_with fail
           exact ⟨_,by rw [HFX.out];simp [upd],rfl,HS.out,RX.of_below (Below.refl _ _)⟩
         · intro u W hS hd hp
           have HS:=hd_ hS;clear hS;rw [HFX.out];clear hd hp;go_wp2_with fail
           exact ⟨_,by rw [HFX.out];simp [upd],rfl,HS.out,RX.of_below (Below.refl _ _)⟩
         · intro u W hS hd hp
           have HS:=hd_ hS;clear hS;obtain ⟨d2,-⟩:=hd;have e2:u 2 = .pointer (some ⟨w.heap.size+1,4,none⟩):=d2 rfl;rw [HFX.out];simp only [e2];clear hp d2;obtain ⟨r0,r1,r2⟩:=(RA5.out.below HS.out).kg.all;go_wp2_with fail
           exact ⟨_,by rw [HFX.out];simp [upd,e2],rfl,HS.out,RX.of_below (Below.refl _ _)⟩
         · intro u W hS hd hp
           have HS:=hd_ hS;clear hS;rw [HFX.out];clear hd hp;go_wp2_with fail
           exact ⟨_,by rw [HFX.out];simp [upd],rfl,HS.out,RX.of_below (Below.refl _ _)⟩
         · intro u W hS hd hp
           have HS:=hd_ hS;clear hS;obtain ⟨d3,d4,-⟩:=hd;have e3:u 3 = .slice (some ⟨g6,o6,none⟩) J dq3:=d3 rfl;have e4:u 4 = .int .i64 (kk:Int):=d4 rfl;rw [HFX.out];simp only [e3,e4];clear hp d3 d4;have ib0:=jb0;have ib1:=jb1;go_wp2_with fail
           exact ⟨_,by rw [HFX.out];simp [upd,e3,e4],rfl,HS.out,RX.of_below (Below.refl _ _)⟩
         · intro u W hS hd hp
           have HS:=hd_ hS;clear hS;obtain ⟨d5,-⟩:=hd;have e5:u 5 = .pointer (some ⟨g6,o6+kk*5,none⟩):=d5 rfl;rw [HFX.out];simp only [e5];clear hp d5;go_wp2_with fail
           exact ⟨_,by rw [HFX.out];simp [upd,e5],rfl,HS.out,RX.of_below (Below.refl _ _)⟩
         · intro u W hS hd hp
           have HS:=hd_ hS;clear hS;obtain ⟨d6,-⟩:=hd;have e6:u 6 = .pointer (some ⟨g6,o6+kk*5+1,none⟩):=d6 rfl;rw [HFX.out];simp only [e6];clear hp d6;have r1:=(HS.out.cell (p:=⟨g6,o6+kk*5+1,none⟩) PGL.out).trans P1.out;have r2:=(HS.out.cell (p:=⟨g6,o6+kk*5+2,none⟩) PGL.out).trans P2.out;go_wp2_with fail
           exact ⟨_,by rw [HFX.out];simp [upd,e6],rfl,HS.out,RX.of_below (Below.refl _ _)⟩
         · intro u W hS hd hp
           have HS:=hd_ hS;clear hS;rw [HFX.out];clear hd hp;go_wp2_with fail
           exact ⟨_,by rw [HFX.out];simp [upd],rfl,HS.out,RX.of_below (Below.refl _ _)⟩
         · intro u W hS hd hp
           have HS:=hd_ hS;clear hS;obtain ⟨d8,-⟩:=hd;have e8:u 8 = .pointer (some ⟨w.heap.size+1,4,none⟩):=d8 rfl;rw [HFX.out];simp only [e8];clear hp d8;obtain ⟨r0,r1,r2⟩:=(RA5.out.below HS.out).kg.all;go_wp2_with fail
           exact ⟨_,by rw [HFX.out];simp [upd,e8],rfl,HS.out,RX.of_below (Below.refl _ _)⟩
         · intro u W hS hd hp
           have HS:=hd_ hS;clear hS;rw [HFX.out];clear hd hp;go_wp2_with fail
           exact ⟨_,by rw [HFX.out];simp [upd],rfl,HS.out,RX.of_below (Below.refl _ _)⟩
         · intro u W hS hd hp
           have HS:=hd_ hS;clear hS;obtain ⟨d9,d10,-⟩:=hd;have e9:u 9 = .slice (some ⟨g6,o6,none⟩) J dq3:=d9 rfl;have e10:u 10 = .int .i64 (kk:Int):=d10 rfl;rw [HFX.out];simp only [e9,e10];clear hp d9 d10;have ib0:=jb0;have ib1:=jb1;go_wp2_with fail
           exact ⟨_,by rw [HFX.out];simp [upd,e9,e10],rfl,HS.out,RX.of_below (Below.refl _ _)⟩
         · intro u W hS hd hp
           have HS:=hd_ hS;clear hS;obtain ⟨d11,-⟩:=hd;have e11:u 11 = .pointer (some ⟨g6,o6+kk*5,none⟩):=d11 rfl;rw [HFX.out];simp only [e11];clear hp d11;go_wp2_with fail
           exact ⟨_,by rw [HFX.out];simp [upd,e11],rfl,HS.out,RX.of_below (Below.refl _ _)⟩
         · intro u W hS hd hp
           have HS:=hd_ hS;clear hS;obtain ⟨d12,-⟩:=hd;have e12:u 12 = .pointer (some ⟨g6,o6+kk*5+3,none⟩):=d12 rfl;rw [HFX.out];simp only [e12];clear hp d12;have r3:=(HS.out.cell (p:=⟨g6,o6+kk*5+3,none⟩) PGL.out).trans P3.out;go_wp2_with fail
           exact ⟨_,by rw [HFX.out];simp [upd,e12],rfl,HS.out,RX.of_below (Below.refl _ _)⟩
         · intro u W hS hd hp
           have HS:=hd_ hS;clear hS;rw [HFX.out];clear hd hp;go_wp2_with fail
           exact ⟨_,by rw [HFX.out];simp [upd],rfl,HS.out,RX.of_below (Below.refl _ _)⟩
         · intro u W hS hd hp
           have HS:=hd_ hS;clear hS;obtain ⟨d0,d1,d7,d13,d14,-⟩:=hd;have e0:u 0 = .agg #[.string x.1.id,.int .i64 x.1.n,.int .i64 x.1.u,.int .i64 x.1.f,.slice x.2.1 x.1.S.length x.2.2]:=d0 rfl;have e1:u 1 = .int .i64 day:=d1 rfl;have e7:u 7 = .agg #[.int .i64 tk,.int .i64 tu]:=d7 rfl;have e13:u 13 = .int .i64 tf:=d13 rfl;have e14:u 14 = .slice D l.length cl:=d14 rfl;rw [HFX.out];simp only [e0,e1,e7,e13,e14];clear hp d0 d1 d7 d13 d14;have HC:=hd_ (HCC.out W HS.out);go_wp2_with fail
           refine HC.out.mono ?_;rintro e W2 ⟨A9,c9,he,hst,b2⟩;obtain rfl:e = .returned (.tuple #[.agg #[.string r1'.id,.int .i64 r1'.n,.int .i64 r1'.u,.int .i64 r1'.f,.slice A9 r1'.S.length c9],.int .i64 r2']):=he;have hst2:StopsAt w B A9 r1'.S:=hst.back ((RA5.out.hb.trans (Below.mono HS.out RA5.out.hb.size)).mono HBB.out);go_wp2_with fail
           exact ⟨_,by rw [HFX.out];simp [upd,e0,e1,e7,e13,e14],⟨A9,c9,rfl,hst2⟩,PSv.go HS.out b2,RX.of_below b2⟩
         · intro u W hS hd hp
           have HS:=hd_ hS;clear hS;obtain ⟨d15,-⟩:=hd;obtain ⟨A15,c15,e15,s15⟩:(pV (fun v=>∃ (A9:Option Addr) (c9:Nat),v = .tuple #[.agg #[.string r1'.id,.int .i64 r1'.n,.int .i64 r1'.u,.int .i64 r1'.f,.slice A9 r1'.S.length c9],.int .i64 r2']∧StopsAt w B A9 r1'.S)).p (u 15) (u 15) W:=d15 rfl;rw [HFX.out];simp only [e15];clear hp d15;go_wp2_with fail
           exact ⟨_,by rw [HFX.out];simp [upd,e15],⟨A15,c15,rfl,s15⟩,HS.out,RX.of_below (Below.refl _ _)⟩
         · intro u W hS hd hp
           have HS:=hd_ hS;clear hS;obtain ⟨d16,-⟩:=hd;obtain ⟨A16,c16,e16,s16⟩:(pV (fun v=>∃ (A9:Option Addr) (c9:Nat),v = .tuple #[.agg #[.string r1'.id,.int .i64 r1'.n,.int .i64 r1'.u,.int .i64 r1'.f,.slice A9 r1'.S.length c9],.int .i64 r2']∧StopsAt w B A9 r1'.S)).p (u 16) (u 16) W:=d16 rfl;rw [HFX.out];simp only [e16];clear hp d16;go_wp2_with fail
           exact ⟨_,by rw [HFX.out];simp [upd,e16],⟨A16,c16,rfl,s16⟩,HS.out,RX.of_below (Below.refl _ _)⟩
         · intro u W hS hd hp
           have HS:=hd_ hS;clear hS;obtain ⟨d16,-⟩:=hd;obtain ⟨A16,c16,e16,s16⟩:(pV (fun v=>∃ (A9:Option Addr) (c9:Nat),v = .tuple #[.agg #[.string r1'.id,.int .i64 r1'.n,.int .i64 r1'.u,.int .i64 r1'.f,.slice A9 r1'.S.length c9],.int .i64 r2']∧StopsAt w B A9 r1'.S)).p (u 16) (u 16) W:=d16 rfl;rw [HFX.out];simp only [e16];clear hp d16;go_wp2_with fail
           exact ⟨_,by rw [HFX.out];simp [upd,e16],rfl,HS.out,RX.of_below (Below.refl _ _)⟩
         · intro u W hS hd hp
           have HS:=hd_ hS;clear hS;rw [HFX.out];clear hd hp;have kn:=Blk.new W 44 #[.string ⟨#[]⟩,.int .i64 0,.int .i64 0,.int .i64 0,.slice none 0 0];have bn0:=below_self_alloc W (.cells #[.string ⟨#[]⟩,.int .i64 0,.int .i64 0,.int .i64 0,.slice none 0 0] 44);go_wp2_with fail
           exact ⟨_,by rw [HFX.out];simp [upd],⟨_,rfl,Below.size HS.out,_,kn,rfl⟩,PSv.go HS.out bn0,RX.of_below bn0⟩
         · intro u W hS hd hp
           have HS:=hd_ hS;clear hS;obtain ⟨d19,d17,-⟩:=hd;obtain ⟨g19,e19,gb19,gm19⟩:(ptrX W9.heap.size 44 5).p (u 19) (u 19) W:=d19 rfl;obtain ⟨A17,c17,e17,s17⟩:(pV (fun v=>∃ (A9:Option Addr) (c9:Nat),v = .agg #[.string r1'.id,.int .i64 r1'.n,.int .i64 r1'.u,.int .i64 r1'.f,.slice A9 r1'.S.length c9]∧StopsAt w B A9 r1'.S)).p (u 17) (u 17) W:=d17 rfl;rw [HFX.out];simp only [e19,e17];clear hp d19 d17;obtain ⟨cs0,km0,ks0⟩:=gm19;have HST:=hd_ (RX.store (base:=W9.heap.size) (t:=44) (n:=5) (Fin:=(fun cs=>∃ (A9:Option Addr) (c9:Nat),cs=#[.string r1'.id,.int .i64 r1'.n,.int .i64 r1'.u,.int .i64 r1'.f,.slice A9 r1'.S.length c9]∧StopsAt w B A9 r1'.S)) gb19 ⟨cs0,km0,ks0⟩ only_row (blk_row km0) rfl ⟨A17,c17,rfl,s17⟩);go_wp2_with (refine wp_rowL rfl (.tmp 23) (.tmp 196) rfl g19 #[.string r1'.id,.int .i64 r1'.n,.int .i64 r1'.u,.int .i64 r1'.f,.slice A17 r1'.S.length c17] rfl rfl rfl one5L ks0 km0 ?_)
           exact ⟨undef,by rw [HFX.out];simp [upd,e19,e17] <;> rfl,⟨g19,(show upd u 20 undef 19=_ from by simp [upd,e19]),gb19,HST.out.2⟩,PSv.go2 HS.out gb19,HST.out.1⟩
         · intro u W hS hd hp
           have HS:=hd_ hS;clear hS;obtain ⟨d18,-⟩:=hd;have e18:u 18 = .int .i64 r2':=d18 rfl;rw [HFX.out];simp only [e18];clear hp d18;go_wp2_with fail
           exact ⟨_,by rw [HFX.out];simp [upd,e18],rfl,HS.out,RX.of_below (Below.refl _ _)⟩
         intro u W hS hf;obtain ⟨cb,e19,hcb,cfin,⟨A9,c9,hcs,hst9⟩,kc⟩:(finX W9.heap.size 44 (fun cs=>∃ (A9:Option Addr) (c9:Nat),cs=#[.string r1'.id,.int .i64 r1'.n,.int .i64 r1'.u,.int .i64 r1'.f,.slice A9 r1'.S.length c9]∧StopsAt w B A9 r1'.S) 19).p (u 19) (u 20) W:=hf 20 (by decide);subst hcs;have e21:u 21 = .int .i64 r2':=hf 21 (by decide);rw [HFX.out];simp only [e19,e21];clear e19 e21 hf HFX F P1 P2 P3 PGL HCC;replace RA5:=hd_ (RA5.out.below hS);replace KB:=hd_ (KB.out.below hS KB.out.lt);have KC:=hd_ kc;have HST:=hd_ hst9;clear kc hS hcb hst9;by_cases h2:r2'=0
         case neg=>
          have hEE:E=r2':=by rw [← HE.out,chgE_at HXL.out LE.out (by rw [HCG.out];exact h2),HCG.out]
          subst hEE;have hz:Z=Mt.zero:=by rw [HM.out,if_neg h2]
          subst hz;have kz:=RA5.out.kz;have hlv:=row_load kz #[.string ⟨#[]⟩,.int .i64 0,.slice none 0 0,.string ⟨#[]⟩,.int .i64 0,.slice none 0 0,.slice none 0 0,.slice none 0 0] rfl;have hfin:=mt_err (w:=w) (E:=E) (below_row RA5.out.hb (show w.heap.size≤w.heap.size+1+1+1+1 by omega) #[.string ⟨#[]⟩,.int .i64 0,.slice none 0 0,.string ⟨#[]⟩,.int .i64 0,.slice none 0 0,.slice none 0 0,.slice none 0 0]);have HLV:=hd_ hlv;have HFIN:=hd_ hfin;have KZ:=hd_ kz;obtain ⟨z0,z1,z2⟩:=(show Blk W (w.heap.size+1+1+1+1+1) 27 #[.string ⟨#[]⟩,.int .i64 0,.slice none 0 0,.string ⟨#[]⟩,.int .i64 0,.slice none 0 0,.slice none 0 0,.slice none 0 0] from RA5.out.k6).all;clear hlv hfin kz;go_upto_region 34 with fail
          clear h2;go_wp2_with (refine wp_row rfl (.tmp 12) (.tmp 200) rfl (w.heap.size+1+1+1+1) #[.string ⟨#[]⟩,.int .i64 0,.slice none 0 0,.string ⟨#[]⟩,.int .i64 0,.slice none 0 0,.slice none 0 0,.slice none 0 0] rfl rfl rfl one8 rfl KZ.out ?_)
          exact bodyPost_ret (v:=.tuple #[.agg #[.string ⟨#[]⟩,.int .i64 0,.slice none 0 0,.string ⟨#[]⟩,.int .i64 0,.slice none 0 0,.slice none 0 0,.slice none 0 0],.int .i64 E]) (by simp [results,Tryz.results24,asAddr,HLV.out]) rfl HFIN.out
         subst h2;have hk9:=chg_keep (ts:=gts) (day:=day) (l:=l) (x:=x.1) (by rw [HCG.out]);rw [HCG.out] at hk9
         have hla:LmAt w B A9 r1':=by
          have h8:=lms_elem HH.out.ls HXM.out;have h7:x.1.id.size≤9223372036854775807∧x.1.S.length≤9223372036854775807:=h8.2;exact ⟨HST.out,by rw [hk9.1];exact h7.1,by rw [hk9.2];exact h7.2⟩
         have HLA:=hd_ hla;clear hk9 hla;obtain ⟨z0,z1,z2⟩:=KC.out.all;go_upto_region 35 with fail
         go_upto_region 36 with (refine wp_rowL rfl (.tmp 21) (.tmp 202) rfl lb #[.string r1'.id,.int .i64 r1'.n,.int .i64 r1'.u,.int .i64 r1'.f,.slice A9 r1'.S.length c9] rfl rfl rfl one5L rfl KB.out ?_)
         have RA6:=hd_ (RA5.out.only (only_row (W:=W) (g:=lb) (cells:=#[.string r1'.id,.int .i64 r1'.n,.int .i64 r1'.u,.int .i64 r1'.f,.slice A9 r1'.S.length c9])) HLO.out HN1.out HN2.out);have KB6:=hd_ (blk_row (cells:=#[.string r1'.id,.int .i64 r1'.n,.int .i64 r1'.u,.int .i64 r1'.f,.slice A9 r1'.S.length c9]) KB.out);clear RA5 KB KC z0 z1 z2;generalize W.setRow lb #[.string r1'.id,.int .i64 r1'.n,.int .i64 r1'.u,.int .i64 r1'.f,.slice A9 r1'.S.length c9]=W10 at *;obtain ⟨y0,y1,y2⟩:=RA6.out.ko.all;obtain ⟨v0,v1,v2⟩:=KB6.out.all;have kn:=Blk.new W10 44 #[.string r1'.id,.int .i64 r1'.n,.int .i64 r1'.u,.int .i64 r1'.f,.slice A9 r1'.S.length c9];have RS3:=hd_ (RA6.out.below (below_self_alloc W10 (.cells #[.string r1'.id,.int .i64 r1'.n,.int .i64 r1'.u,.int .i64 r1'.f,.slice A9 r1'.S.length c9] 44)));have own3:=RS3.out.ol;have hba:=RS3.out.hb.size;go_upto_region 28 with (at_builtin;refine wpList_append_lies _ rfl _ _ 25 rfl w.heap.size 44 l0 _ 5 64 Tryz.underlying25 hl0 lz0 lz1 lz2 rfl (by omega) (.slice A2 j q2) j (lmCells lk) rfl own3 ⟨W10.heap.size,0,none⟩ 1 1 [.string r1'.id,.int .i64 r1'.n,.int .i64 r1'.u,.int .i64 r1'.f,.slice A9 r1'.S.length c9] rfl rfl (World.news_of_block kn) (lmCells_one [(r1',A9,c9)]) (by omega) (by unfold maxLen;omega) (by omega) hba _ rfl ?_;intro gz cz Y own4 gr4 l4 z4;have rs4:=RS3.out.lims (lv':=lk++[(r1',A9,c9)]) (by rw [lmCells_app];exact own4) gr4;have RS4:=hd_ rs4;clear y0 y1 y2;obtain ⟨y0,y1,y2⟩:=rs4.ko.all;clear rs4 own4 gr4 l4 own3 kn)
         have RS5:=hd_ (RS4.out.set 7 (.slice (some ⟨gz,0,none⟩) (j+1) cz));clear RS3 RS4 RA6 KB6 y0 y1 y2 v0 v1 v2 hba;go_wp2
         go_roundg mm
         case rel=>exact ⟨j+1,some ⟨gz,0,none⟩,cz,lk++[(r1',A9,c9)],by omega,by go_num,hd_ (by rw [List.length_append,HLK.out];rfl),RS5,hd_ (LK.out.step HX.out (by rw [HCG.out])),hd_ (fun y hy=>(List.mem_append.1 hy).elim (LA.out y) (fun h=>by rw [List.mem_singleton.1 h];exact HLA.out)),hd_ (fun y hy=>by rw [take_snoc' HXL.out] at hy;exact (List.mem_append.1 hy).elim (LE.out y) (fun h=>by rw [List.mem_singleton.1 h,HCG.out]))⟩
         case measure=>omega
       · have c0:decide ((0:Int)≤tv0)=false:=decide_eq_false h0
         have hcg:chgS gts day l x.1=(x.1,0):=by unfold chgS;rw [termOf_N (by rw [HTV.out];omega)]
         have HCG:=hd_ hcg;have HLA:Hid (LmAt w B x.2.1 x.1):=hd_ (lms_elem HH.out.ls HXM.out);clear hcg;obtain ⟨y0,y1,y2⟩:=RA5.out.ko.all;obtain ⟨v0,v1,v2⟩:=KB.out.all;have kn:=Blk.new W9 44 #[.string x.1.id,.int .i64 x.1.n,.int .i64 x.1.u,.int .i64 x.1.f,.slice x.2.1 x.1.S.length x.2.2];have RS3:=hd_ (RA5.out.below (below_self_alloc W9 (.cells #[.string x.1.id,.int .i64 x.1.n,.int .i64 x.1.u,.int .i64 x.1.f,.slice x.2.1 x.1.S.length x.2.2] 44)));have own3:=RS3.out.ol;have hba:=RS3.out.hb.size;go_upto_region 28 with (at_builtin;refine wpList_append_lies _ rfl _ _ 25 rfl w.heap.size 44 l0 _ 5 64 Tryz.underlying25 hl0 lz0 lz1 lz2 rfl (by omega) (.slice A2 j q2) j (lmCells lk) rfl own3 ⟨W9.heap.size,0,none⟩ 1 1 [.string x.1.id,.int .i64 x.1.n,.int .i64 x.1.u,.int .i64 x.1.f,.slice x.2.1 x.1.S.length x.2.2] rfl rfl (World.news_of_block kn) (lmCells_one [x]) (by omega) (by unfold maxLen;omega) (by omega) hba _ rfl ?_;intro gz cz Y own4 gr4 l4 z4;have rs4:=RS3.out.lims (lv':=lk++[x]) (by rw [lmCells_app];exact own4) gr4;have RS4:=hd_ rs4;clear y0 y1 y2;obtain ⟨y0,y1,y2⟩:=rs4.ko.all;clear rs4 own4 gr4 l4 own3 kn)
         have RS5:=hd_ (RS4.out.set 7 (.slice (some ⟨gz,0,none⟩) (j+1) cz));clear RS3 RS4 RA5 KB y0 y1 y2 v0 v1 v2 hba c0;go_wp2
         go_roundg mm
         case rel=>exact ⟨j+1,some ⟨gz,0,none⟩,cz,lk++[x],by omega,by go_num,hd_ (by rw [List.length_append,HLK.out];rfl),RS5,hd_ (LK.out.step HX.out (by rw [HCG.out])),hd_ (fun y hy=>(List.mem_append.1 hy).elim (LA.out y) (fun h=>by rw [List.mem_singleton.1 h];exact HLA.out)),hd_ (fun y hy=>by rw [take_snoc' HXL.out] at hy;exact (List.mem_append.1 hy).elim (LE.out y) (fun h=>by rw [List.mem_singleton.1 h,HCG.out]))⟩
         case measure=>omega
     · obtain rfl:gk=0:=by omega
       obtain rfl:j=K:=by omega
       have nb:¬ (j:Int)<(j:Int):=by omega
       have hE0:E=0:=by
        rw [← HE.out];refine chgE_zero.2 fun y hy=>LE.out y ?_;rw [List.take_of_length_le (by rw [HK.out];exact Nat.le_refl _)];exact hy
       subst hE0;have hz:=HM.out;rw [if_pos rfl] at hz;subst hz
       have hmap:lk.map (·.1)=chgL gts day l ls:=by
        have:=LK.out;rw [← HKL.out] at this;rw [this.done,HLV0.out]
       have hlk2:(chgL gts day l ls).length=j:=by unfold chgL;rw [List.length_map];exact HK.out
       have kz:=RA.out.kz;have hlv:=row_load kz #[.string id,.int .i64 o,.slice a1 cs.length c1,.string tn,.int .i64 ns,.slice a2 k2 c2,.slice A on c,.slice A2 j q2] rfl;have ho:=(only_setRow wr (w.heap.size+1+1+1+1) #[.string id,.int .i64 o,.slice a1 cs.length c1,.string tn,.int .i64 ns,.slice a2 k2 c2,.slice A on c,.slice A2 j q2]);have ow9:=ho.owns RA.out.or_ (fun b hb f=>own_blk_ne RA.out.or_ kz (by decide) (by rw [hb,f]));have ol9:=ho.owns RA.out.ol (fun b hb f=>own_blk_ne RA.out.ol kz (by decide) (by rw [hb,f]));have hb9:=below_row RA.out.hb (show w.heap.size≤w.heap.size+1+1+1+1 by omega) #[.string id,.int .i64 o,.slice a1 cs.length c1,.string tn,.int .i64 ns,.slice a2 k2 c2,.slice A on c,.slice A2 j q2];have HLV:=hd_ hlv;have KZ:=hd_ kz;have OW9:=hd_ ow9;have OL9:=hd_ ol9;have HB9:=hd_ hb9;have HMAP:=hd_ hmap;have HLK2:=hd_ hlk2;obtain ⟨v0,v1,v2⟩:=RA.out.ko.all;clear hlv kz ow9 ol9 hb9 hmap ho hlk2;go_wp2_with (refine wp_row rfl (.tmp 12) (.tmp 209) rfl (w.heap.size+1+1+1+1) #[.string id,.int .i64 o,.slice a1 cs.length c1,.string tn,.int .i64 ns,.slice a2 k2 c2,.slice A on c,.slice A2 j q2] rfl rfl rfl one8 rfl KZ.out ?_)
       refine bodyPost_ret (v:=.tuple #[.agg #[.string id,.int .i64 o,.slice a1 cs.length c1,.string tn,.int .i64 ns,.slice a2 k2 c2,.slice A on c,.slice A2 j q2],.int .i64 0]) (by simp [results,Tryz.results24,asAddr,HLV.out]) rfl ?_;have hm:=HH.out.below (HB9.out.mono HBB.out);have hsz:=Nat.le_trans HBB.out HB9.out.size;refine ⟨⟨a1,c1,a2,c2,A,c,A2,q2,lk⟩,?_,⟨hm.cs.wide hsz,hm.mv.wide hsz,?_,?_,HMAP.out,hm.id,HGG.out.tn,?_⟩,HB9.out⟩
       · unfold mtC
         simp only [HO.out,HON.out,HLK2.out,HK2.out]
       · show RtsAt _ _ A (mergeR grs rs)
         rw [HO.out];exact RtsAt.of_row HON.out OW9.out
       · exact LmsAt.of_row2 HLK.out OL9.out (fun y hy=>(LmAt.below (LA.out y hy) (HB9.out.mono HBB.out)).wide hsz)
       · intro r hr
         obtain ⟨r0,hr0,rfl⟩:=mergeR_mem hr;rcases named_or grs r0.1 with h | ⟨s,hs,h⟩
         · show (namedL grs r0.1).size≤_
           rw [h];exact HH.out.rn r0 hr0
         · show (namedL grs r0.1).size≤_
           rw [h];exact (HGG.out.rn s hs).2
end Go.Proofs.YtknchlpcpgflkaaGreatDoor

import Derived.Test.YtknchlpcpgflkaaGreatDoorKGBP
import Derived.Test.YtknchlpcpgflkaaGreatDoorKGBM
import Derived.Test.YtknchlpcpgflkaaGreatDoorKGBC
import Derived.Test.YtknchlpcpgflkaaGreatDoorKGAM
import Derived.Test.YtknchlpcpgflkaaGreatDoorKRk
set_option maxRecDepth 100000
set_option maxHeartbeats 16000000
namespace Go.Proofs.YtknchlpcpgflkaaGreatDoor
open Go.RowKit Go.Shelf
theorem rapply_bad (w:World) (B:Nat) (m:Mt) (x:MtX) (h:MtAt w B m x) (hB:B≤w.heap.size) (hs:Sml m) (hcm:m.rs.length≤x.c3) (g:Mg) (z:MgX) (hg:MgAt w B g z) (hsg:SmlG g) (p:Pc) (y:PcX) (hp:PcAt w B p y) (hsp:SmlP p) (hcp:p.ss.length≤y.c1) (q:Pc) (v:PcX) (hq:PcAt w B q v) (hsq:SmlP q) (hcq:q.ss.length≤v.c1) (day:Int) (D:Option Addr) (l:List Int) (cl:Nat)
 (hbad:apB m g p q day=false∨newSt g m.st<0∨day<m.o∨day<lastI m.o m.mv) :
 Calls Tryz.prog 24 #[.agg (mtC m x),.agg (mgC g z),.agg (pcC p y),.agg (pcC q v),.int .i64 day,.slice D l.length cl] w (MtPost w (applyE m g p q day l) (applyM m g p q day l)):=by
 obtain ⟨E,hE⟩:∃ E,applyE m g p q day l=E:=⟨_,rfl⟩
 have hE0:E≠0:=by
  rw [← hE];unfold applyE;intro he
  split at he
  · simp at he
  · split at he
    · simp at he
    · split at he
      · simp at he
      · rename_i a1 a2 a3
        rcases hbad with h | h | h | h
        · exact a1 h
        · exact a2 h
        · exact a3 (.inl h)
        · exact a3 (.inr h)
 have hM:applyM m g p q day l=Mt.zero:=by unfold applyM;rw [hE,if_neg hE0]
 rw [hM,hE];unfold applyE at hE;clear hM hE0;have hva:=fun W (hW:Below w.heap.size w W)=>rvalidG_any W B g z (hg.below (hW.mono hB)) (Nat.le_trans hB hW.size) hsg p y (hp.below (hW.mono hB)) hsp hcp q v (hq.below (hW.mono hB)) hsq hcq;have htx:=fun W (hW:Below w.heap.size w W)=>rformed_any W B m x (h.below (hW.mono hB)) (Nat.le_trans hB hW.size) hs hcm;have hdy:=fun W=>rDay_any W day;obtain ⟨dd,hdd⟩:∃ b,isB day=b:=⟨_,rfl⟩;rw [hdd] at hdy;obtain ⟨vv,hvv⟩:∃ b,vdB g p q=b:=⟨_,rfl⟩;obtain ⟨ff,hff⟩:∃ b,fmB m=b:=⟨_,rfl⟩;rw [hvv] at hva;rw [hff] at htx;have hgl:vv=true→g.st.length=p.ss.length:=fun e=>(vdB_iff.1 (hvv.trans e)).2.2.2.2.2.1;have hst0:ff=true→0≤m.st:=fun e=>(fmB_iff.1 (hff.trans e)).2.2.2.1.1;unfold apB at hE hbad;rw [hvv,hff,hdd] at hE hbad;clear hdd;have hml:=hs.2.1;clear hvv hff hp hq hs hsg hsp hsq hcm hcp hcq;obtain ⟨id,o,cs,pr,st,mv,rs,ls⟩:=m;obtain ⟨a1,c1,a2,c2,a3,c3,a4,c4,lv⟩:=x;obtain ⟨fr,tn,gst,grs,gts⟩:=g;obtain ⟨b1,d1,b2,d2,b3,d3,tv⟩:=z;obtain ⟨pn,pss,pms⟩:=p;obtain ⟨e1,f1,e2,f2⟩:=y;obtain ⟨qn,qss,qms⟩:=q;obtain ⟨i1,j1,i2,j2⟩:=v;simp only at hE hbad hgl hst0 hml;obtain ⟨N,hN⟩:∃ N,rs.length=N:=⟨_,rfl⟩;obtain ⟨K,hK⟩:∃ K,ls.length=K:=⟨_,rfl⟩;obtain ⟨J,hJ⟩:∃ J,gts.length=J:=⟨_,rfl⟩;obtain ⟨k2,hk2⟩:∃ K,mv.length=K:=⟨_,rfl⟩;obtain ⟨pl,hpl⟩:∃ K,pss.length=K:=⟨_,rfl⟩;obtain ⟨gn,hgn⟩:∃ K,gst.length=K:=⟨_,rfl⟩;rw [hk2] at hml;rw [hgn,hpl] at hgl;rw [hpl] at hE hbad;have eM:mtC ⟨id,o,cs,pr,st,mv,rs,ls⟩ ⟨a1,c1,a2,c2,a3,c3,a4,c4,lv⟩=#[.string id,.int .i64 o,.slice a1 cs.length c1,.string pr,.int .i64 st,.slice a2 k2 c2,.slice a3 N c3,.slice a4 K c4]:=by unfold mtC;simp only [hN,hK,hk2]
 have eG:mgC ⟨fr,tn,gst,grs,gts⟩ ⟨b1,d1,b2,d2,b3,d3,tv⟩=#[.string fr,.string tn,.slice b1 gn d1,.slice b2 grs.length d2,.slice b3 J d3]:=by unfold mgC;simp only [hJ,hgn]
 have eP:pcC ⟨pn,pss,pms⟩ ⟨e1,f1,e2,f2⟩=#[.string pn,.slice e1 pl f1,.slice e2 pms.length f2]:=by unfold pcC;simp only [hpl]
 have eQ:pcC ⟨qn,qss,qms⟩ ⟨i1,j1,i2,j2⟩=#[.string qn,.slice i1 qss.length j1,.slice i2 qms.length j2]:=rfl;rw [eG,eP,eQ] at hva;rw [eM] at htx;rw [eM,eG,eP,eQ];have HVA:=hd_ hva;have HTX:=hd_ htx;have HDY:=hd_ hdy;have HH:=hd_ h;have HGG:=hd_ hg;have HE:=hd_ hE;have HBB:=hd_ hB;have HK2:=hd_ hk2;have HGN:=hd_ hgn;have HBAD:=hd_ hbad;have HGL:=hd_ hgl;have HST0:=hd_ hst0;clear hva htx hdy h hg hE eM eG eP eQ hN hK hk2 hJ hpl hgn hB hbad hgl hst0;go_enter Tryz.func24,Tryz.ntmps24
 go_upto_region 2 with fail
 generalize hW0:(((((w.alloc (.cells #[.string id,.int .i64 o,.slice a1 cs.length c1,.string pr,.int .i64 st,.slice a2 k2 c2,.slice a3 N c3,.slice a4 K c4] 27)).alloc (.cells #[.string fr,.string tn,.slice b1 gn d1,.slice b2 grs.length d2,.slice b3 J d3] 30)).alloc (.cells #[.string pn,.slice e1 pl f1,.slice e2 pms.length f2] 34)).alloc (.cells #[.string qn,.slice i1 qss.length j1,.slice i2 qms.length j2] 34)).alloc (.cells #[.string ⟨#[]⟩,.int .i64 0,.slice none 0 0,.string ⟨#[]⟩,.int .i64 0,.slice none 0 0,.slice none 0 0,.slice none 0 0] 27)).alloc (.cells #[.string ⟨#[]⟩,.int .i64 0,.slice none 0 0,.string ⟨#[]⟩,.int .i64 0,.slice none 0 0,.slice none 0 0,.slice none 0 0] 27)=W0 at *;obtain ⟨hb,k0,k1,k2',k3,k4,k5⟩:=boxes6a hW0;have HB:=hd_ hb;have K0:=hd_ k0;have K1:=hd_ k1;have K2:=hd_ k2';have K3:=hd_ k3;have K4:=hd_ k4;have K5:=hd_ k5;clear hb k0 k1 k2' k3 k4 k5 hW0;obtain ⟨t0,t1,t2⟩:=K0.out.all;obtain ⟨u0,u1,u2⟩:=K1.out.all;obtain ⟨v0,v1,v2⟩:=K2.out.all;obtain ⟨x0,x1,x2⟩:=K3.out.all;obtain ⟨z0,z1,z2⟩:=K5.out.all;go_wp2_with fail
 refine (HVA.out W0 HB.out).mono ?_;rintro e W1 ⟨rfl,b1'⟩;clear t0 t1 t2 u0 u1 u2 v0 v1 v2 x0 x1 x2 z0 z1 z2;replace HB:=hd_ (HB.out.trans (b1'.mono HB.out.size));replace K0:=hd_ (K0.out.below b1' K0.out.lt);replace K1:=hd_ (K1.out.below b1' K1.out.lt);replace K2:=hd_ (K2.out.below b1' K2.out.lt);replace K3:=hd_ (K3.out.below b1' K3.out.lt);replace K4:=hd_ (K4.out.below b1' K4.out.lt);replace K5:=hd_ (K5.out.below b1' K5.out.lt);clear b1';obtain ⟨t0,t1,t2⟩:=K0.out.all;obtain ⟨u0,u1,u2⟩:=K1.out.all;obtain ⟨v0,v1,v2⟩:=K2.out.all;obtain ⟨x0,x1,x2⟩:=K3.out.all;obtain ⟨z0,z1,z2⟩:=K5.out.all
 cases vv with
 | false=>
  have hEE:E=1:=by rw [← HE.out];rw [if_pos (by simp)]
  subst hEE;have hlv:=row_load K4.out #[.string ⟨#[]⟩,.int .i64 0,.slice none 0 0,.string ⟨#[]⟩,.int .i64 0,.slice none 0 0,.slice none 0 0,.slice none 0 0] rfl;have hfin:=mt_err (w:=w) (E:=1) (below_row HB.out (show w.heap.size≤w.heap.size+1+1+1+1 by omega) #[.string ⟨#[]⟩,.int .i64 0,.slice none 0 0,.string ⟨#[]⟩,.int .i64 0,.slice none 0 0,.slice none 0 0,.slice none 0 0]);have HLV:=hd_ hlv;have HFIN:=hd_ hfin;clear hlv hfin HE HVA HTX HDY HH HGG HBAD HGL HST0;go_upto_region 3 with fail
  clear t0 t1 t2 u0 u1 u2 v0 v1 v2 x0 x1 x2;go_wp2_with (refine wp_row rfl (.tmp 12) (.tmp 56) rfl (w.heap.size+1+1+1+1) #[.string ⟨#[]⟩,.int .i64 0,.slice none 0 0,.string ⟨#[]⟩,.int .i64 0,.slice none 0 0,.slice none 0 0,.slice none 0 0] rfl rfl rfl one8 rfl K4.out ?_)
  exact bodyPost_ret (v:=.tuple #[.agg #[.string ⟨#[]⟩,.int .i64 0,.slice none 0 0,.string ⟨#[]⟩,.int .i64 0,.slice none 0 0,.slice none 0 0,.slice none 0 0],.int .i64 1]) (by simp [results,Tryz.results24,asAddr,HLV.out]) rfl HFIN.out
 | true=>
 go_wp2_with fail
 refine (HTX.out W1 HB.out).mono ?_;rintro e W2 ⟨rfl,b2'⟩;clear t0 t1 t2 u0 u1 u2 v0 v1 v2 x0 x1 x2 z0 z1 z2;replace HB:=hd_ (HB.out.trans (b2'.mono HB.out.size));replace K0:=hd_ (K0.out.below b2' K0.out.lt);replace K1:=hd_ (K1.out.below b2' K1.out.lt);replace K2:=hd_ (K2.out.below b2' K2.out.lt);replace K3:=hd_ (K3.out.below b2' K3.out.lt);replace K4:=hd_ (K4.out.below b2' K4.out.lt);replace K5:=hd_ (K5.out.below b2' K5.out.lt);clear b2';obtain ⟨t0,t1,t2⟩:=K0.out.all;obtain ⟨u0,u1,u2⟩:=K1.out.all;obtain ⟨v0,v1,v2⟩:=K2.out.all;obtain ⟨x0,x1,x2⟩:=K3.out.all;obtain ⟨z0,z1,z2⟩:=K5.out.all
 cases ff with
 | false=>
  have hEE:E=1:=by rw [← HE.out];rw [if_pos (by simp)]
  subst hEE;have hlv:=row_load K4.out #[.string ⟨#[]⟩,.int .i64 0,.slice none 0 0,.string ⟨#[]⟩,.int .i64 0,.slice none 0 0,.slice none 0 0,.slice none 0 0] rfl;have hfin:=mt_err (w:=w) (E:=1) (below_row HB.out (show w.heap.size≤w.heap.size+1+1+1+1 by omega) #[.string ⟨#[]⟩,.int .i64 0,.slice none 0 0,.string ⟨#[]⟩,.int .i64 0,.slice none 0 0,.slice none 0 0,.slice none 0 0]);have HLV:=hd_ hlv;have HFIN:=hd_ hfin;clear hlv hfin HE HVA HTX HDY HH HGG HBAD HGL HST0;go_upto_region 3 with fail
  clear t0 t1 t2 u0 u1 u2 v0 v1 v2 x0 x1 x2;go_wp2_with (refine wp_row rfl (.tmp 12) (.tmp 56) rfl (w.heap.size+1+1+1+1) #[.string ⟨#[]⟩,.int .i64 0,.slice none 0 0,.string ⟨#[]⟩,.int .i64 0,.slice none 0 0,.slice none 0 0,.slice none 0 0] rfl rfl rfl one8 rfl K4.out ?_)
  exact bodyPost_ret (v:=.tuple #[.agg #[.string ⟨#[]⟩,.int .i64 0,.slice none 0 0,.string ⟨#[]⟩,.int .i64 0,.slice none 0 0,.slice none 0 0,.slice none 0 0],.int .i64 1]) (by simp [results,Tryz.results24,asAddr,HLV.out]) rfl HFIN.out
 | true=>
 by_cases h3:pr=fr
 case neg=>
  have e3:=str_no h3;have hEE:E=1:=by rw [← HE.out];rw [if_pos (by simp [h3])]
  subst hEE;have hlv:=row_load K4.out #[.string ⟨#[]⟩,.int .i64 0,.slice none 0 0,.string ⟨#[]⟩,.int .i64 0,.slice none 0 0,.slice none 0 0,.slice none 0 0] rfl;have hfin:=mt_err (w:=w) (E:=1) (below_row HB.out (show w.heap.size≤w.heap.size+1+1+1+1 by omega) #[.string ⟨#[]⟩,.int .i64 0,.slice none 0 0,.string ⟨#[]⟩,.int .i64 0,.slice none 0 0,.slice none 0 0,.slice none 0 0]);have HLV:=hd_ hlv;have HFIN:=hd_ hfin;clear hlv hfin HE HVA HTX HDY HH HGG HBAD HGL HST0;go_upto_region 3 with fail
  clear t0 t1 t2 u0 u1 u2 v0 v1 v2 x0 x1 x2;go_wp2_with (refine wp_row rfl (.tmp 12) (.tmp 56) rfl (w.heap.size+1+1+1+1) #[.string ⟨#[]⟩,.int .i64 0,.slice none 0 0,.string ⟨#[]⟩,.int .i64 0,.slice none 0 0,.slice none 0 0,.slice none 0 0] rfl rfl rfl one8 rfl K4.out ?_)
  exact bodyPost_ret (v:=.tuple #[.agg #[.string ⟨#[]⟩,.int .i64 0,.slice none 0 0,.string ⟨#[]⟩,.int .i64 0,.slice none 0 0,.slice none 0 0,.slice none 0 0],.int .i64 1]) (by simp [results,Tryz.results24,asAddr,HLV.out]) rfl HFIN.out
 have e3:(pr.toList == fr.toList)=true:=by rw [h3];simp
 by_cases h4:st<(pl:Int)
 case neg=>
  have e4:decide ((pl:Int)≤st)=true:=decide_eq_true (by omega);have hEE:E=1:=by rw [← HE.out];rw [if_pos (by simp [h4])]
  subst hEE;have hlv:=row_load K4.out #[.string ⟨#[]⟩,.int .i64 0,.slice none 0 0,.string ⟨#[]⟩,.int .i64 0,.slice none 0 0,.slice none 0 0,.slice none 0 0] rfl;have hfin:=mt_err (w:=w) (E:=1) (below_row HB.out (show w.heap.size≤w.heap.size+1+1+1+1 by omega) #[.string ⟨#[]⟩,.int .i64 0,.slice none 0 0,.string ⟨#[]⟩,.int .i64 0,.slice none 0 0,.slice none 0 0,.slice none 0 0]);have HLV:=hd_ hlv;have HFIN:=hd_ hfin;clear hlv hfin HE HVA HTX HDY HH HGG HBAD HGL HST0;go_upto_region 3 with fail
  clear t0 t1 t2 u0 u1 u2 v0 v1 v2 x0 x1 x2;go_wp2_with (refine wp_row rfl (.tmp 12) (.tmp 56) rfl (w.heap.size+1+1+1+1) #[.string ⟨#[]⟩,.int .i64 0,.slice none 0 0,.string ⟨#[]⟩,.int .i64 0,.slice none 0 0,.slice none 0 0,.slice none 0 0] rfl rfl rfl one8 rfl K4.out ?_)
  exact bodyPost_ret (v:=.tuple #[.agg #[.string ⟨#[]⟩,.int .i64 0,.slice none 0 0,.string ⟨#[]⟩,.int .i64 0,.slice none 0 0,.slice none 0 0,.slice none 0 0],.int .i64 1]) (by simp [results,Tryz.results24,asAddr,HLV.out]) rfl HFIN.out
 have e4:decide ((pl:Int)≤st)=false:=decide_eq_false (by omega);go_wp2_with fail
 refine (HDY.out W2).mono ?_;rintro e W3 ⟨rfl,he⟩;subst he
 cases dd with
 | false=>
  have hEE:E=1:=by rw [← HE.out];rw [if_pos (by simp)]
  subst hEE;have hlv:=row_load K4.out #[.string ⟨#[]⟩,.int .i64 0,.slice none 0 0,.string ⟨#[]⟩,.int .i64 0,.slice none 0 0,.slice none 0 0,.slice none 0 0] rfl;have hfin:=mt_err (w:=w) (E:=1) (below_row HB.out (show w.heap.size≤w.heap.size+1+1+1+1 by omega) #[.string ⟨#[]⟩,.int .i64 0,.slice none 0 0,.string ⟨#[]⟩,.int .i64 0,.slice none 0 0,.slice none 0 0,.slice none 0 0]);have HLV:=hd_ hlv;have HFIN:=hd_ hfin;clear hlv hfin HE HVA HTX HDY HH HGG HBAD HGL HST0;go_upto_region 3 with fail
  clear t0 t1 t2 u0 u1 u2 v0 v1 v2 x0 x1 x2;go_wp2_with (refine wp_row rfl (.tmp 12) (.tmp 56) rfl (w.heap.size+1+1+1+1) #[.string ⟨#[]⟩,.int .i64 0,.slice none 0 0,.string ⟨#[]⟩,.int .i64 0,.slice none 0 0,.slice none 0 0,.slice none 0 0] rfl rfl rfl one8 rfl K4.out ?_)
  exact bodyPost_ret (v:=.tuple #[.agg #[.string ⟨#[]⟩,.int .i64 0,.slice none 0 0,.string ⟨#[]⟩,.int .i64 0,.slice none 0 0,.slice none 0 0,.slice none 0 0],.int .i64 1]) (by simp [results,Tryz.results24,asAddr,HLV.out]) rfl HFIN.out
 | true=>
 have hall:¬ ((true && (true && (decide (pr=fr) && (decide (st<(pl:Int)) && true))))=false):=by rw [decide_eq_true h3,decide_eq_true h4];simp
 have HALL:=hd_ hall;have hst0:=HST0.out (by trivial);have hgl:=HGL.out (by trivial);obtain ⟨sn,rfl⟩:∃ n:Nat,st=(n:Int):=⟨st.toNat,by omega⟩;obtain ⟨ns,hns⟩:∃ s,gst[sn]? = some s:=⟨_,List.getElem?_eq_getElem (by rw [HGN.out];omega)⟩;have hnw:newSt ⟨fr,tn,gst,grs,gts⟩ (sn:Int)=ns:=by show (gst[(sn:Int).toNat]?).getD 0=ns;rw [Int.toNat_natCast,hns];rfl
 obtain ⟨ga,oa,hAg,hga,pg⟩:=(HGG.out.below (HB.out.mono HBB.out)).st sn ns hns;have hAg:b1=some ⟨ga,oa,none⟩:=hAg;subst hAg;have pg:W2.cell? ⟨ga,oa+sn,none⟩=some (.int .i64 ns):=pg;have ib0:(0:Int)≤(sn:Int):=hst0;have ib1:(sn:Int)<(gn:Int):=by omega
 have HNW:=hd_ hnw;clear hall hns hnw hst0 hgl e3 e4;by_cases h7:ns<0
 case pos=>
  have e7:decide (ns<0)=true:=decide_eq_true h7;have hEE:E=12:=by rw [← HE.out];rw [if_neg HALL.out,if_pos (by rw [HNW.out];exact h7)]
  subst hEE;have hlv:=row_load K4.out #[.string ⟨#[]⟩,.int .i64 0,.slice none 0 0,.string ⟨#[]⟩,.int .i64 0,.slice none 0 0,.slice none 0 0,.slice none 0 0] rfl;have hfin:=mt_err (w:=w) (E:=12) (below_row HB.out (show w.heap.size≤w.heap.size+1+1+1+1 by omega) #[.string ⟨#[]⟩,.int .i64 0,.slice none 0 0,.string ⟨#[]⟩,.int .i64 0,.slice none 0 0,.slice none 0 0,.slice none 0 0]);have HLV:=hd_ hlv;have HFIN:=hd_ hfin;clear hlv hfin HE HVA HTX HDY HH HGG HBAD HGL HST0;go_upto_region 5 with fail
  clear t0 t1 t2 u0 u1 u2 v0 v1 v2 x0 x1 x2;go_wp2_with (refine wp_row rfl (.tmp 12) (.tmp 64) rfl (w.heap.size+1+1+1+1) #[.string ⟨#[]⟩,.int .i64 0,.slice none 0 0,.string ⟨#[]⟩,.int .i64 0,.slice none 0 0,.slice none 0 0,.slice none 0 0] rfl rfl rfl one8 rfl K4.out ?_)
  exact bodyPost_ret (v:=.tuple #[.agg #[.string ⟨#[]⟩,.int .i64 0,.slice none 0 0,.string ⟨#[]⟩,.int .i64 0,.slice none 0 0,.slice none 0 0,.slice none 0 0],.int .i64 12]) (by simp [results,Tryz.results24,asAddr,HLV.out]) rfl HFIN.out
 have e7:decide (ns<0)=false:=decide_eq_false h7;by_cases h8:day<o
 case pos=>
  have e8:decide (day<o)=true:=decide_eq_true h8;have hEE:E=24:=by rw [← HE.out];rw [if_neg HALL.out,if_neg (by rw [HNW.out];exact h7),if_pos (.inl h8)]
  subst hEE;have hlv:=row_load K4.out #[.string ⟨#[]⟩,.int .i64 0,.slice none 0 0,.string ⟨#[]⟩,.int .i64 0,.slice none 0 0,.slice none 0 0,.slice none 0 0] rfl;have hfin:=mt_err (w:=w) (E:=24) (below_row HB.out (show w.heap.size≤w.heap.size+1+1+1+1 by omega) #[.string ⟨#[]⟩,.int .i64 0,.slice none 0 0,.string ⟨#[]⟩,.int .i64 0,.slice none 0 0,.slice none 0 0,.slice none 0 0]);have HLV:=hd_ hlv;have HFIN:=hd_ hfin;clear hlv hfin HE HVA HTX HDY HH HGG HBAD HGL HST0;go_upto_region 7 with fail
  clear t0 t1 t2 u0 u1 u2 v0 v1 v2 x0 x1 x2;go_wp2_with (refine wp_row rfl (.tmp 12) (.tmp 87) rfl (w.heap.size+1+1+1+1) #[.string ⟨#[]⟩,.int .i64 0,.slice none 0 0,.string ⟨#[]⟩,.int .i64 0,.slice none 0 0,.slice none 0 0,.slice none 0 0] rfl rfl rfl one8 rfl K4.out ?_)
  exact bodyPost_ret (v:=.tuple #[.agg #[.string ⟨#[]⟩,.int .i64 0,.slice none 0 0,.string ⟨#[]⟩,.int .i64 0,.slice none 0 0,.slice none 0 0,.slice none 0 0],.int .i64 24]) (by simp [results,Tryz.results24,asAddr,HLV.out]) rfl HFIN.out
 have e8:decide (day<o)=false:=decide_eq_false h8
 have hlast:day<lastI o mv:=by
  rcases HBAD.out with h | h | h | h
  · exact absurd h HALL.out
  · rw [HNW.out] at h;exact absurd h h7
  · exact absurd h h8
  · exact h
 have hlt:day<lastI o mv:=hlast
 have hk0:0<k2:=by
  rw [← HK2.out];rcases Nat.eq_zero_or_pos mv.length with h | h
  · rw [List.eq_nil_of_length_eq_zero h] at hlast
    exact absurd hlast h8
  · exact h
 obtain ⟨k3,rfl⟩:∃ k,k2=k+1:=⟨k2 - 1,by omega⟩;obtain ⟨r,hr⟩:∃ r,mv[k3]? = some r:=⟨_,List.getElem?_eq_getElem (by rw [HK2.out];omega)⟩;unfold lastI at hlt;rw [List.getLast?_eq_getElem?,HK2.out,show k3+1 - 1=k3 by omega,hr] at hlt;have hlt:day<r:=hlt;obtain ⟨gm,om,hAm,hgm,pm⟩:=(HH.out.below (HB.out.mono HBB.out)).mv k3 r hr;have hAm:a2=some ⟨gm,om,none⟩:=hAm;subst hAm;have pm:W2.cell? ⟨gm,om+k3,none⟩=some (.int .i64 r):=pm;have ic:decide ((0:Int)<((k3+1:Nat):Int))=true:=decide_eq_true (by omega);have ic1:wrap64 (((k3+1:Nat):Int) - 1)=(k3:Int):=by unfold wrap64;omega
 have ic2:(0:Int)≤(k3:Int):=by omega
 have ic3:(k3:Int)<((k3+1:Nat):Int):=by omega
 have e9:decide (day<r)=true:=decide_eq_true hlt;have HLAST:=hd_ hlast;clear hlast hr hk0;have hEE:E=24:=by rw [← HE.out];rw [if_neg HALL.out,if_neg (by rw [HNW.out];exact h7),if_pos (.inr HLAST.out)]
 subst hEE;have hlv:=row_load K4.out #[.string ⟨#[]⟩,.int .i64 0,.slice none 0 0,.string ⟨#[]⟩,.int .i64 0,.slice none 0 0,.slice none 0 0,.slice none 0 0] rfl;have hfin:=mt_err (w:=w) (E:=24) (below_row HB.out (show w.heap.size≤w.heap.size+1+1+1+1 by omega) #[.string ⟨#[]⟩,.int .i64 0,.slice none 0 0,.string ⟨#[]⟩,.int .i64 0,.slice none 0 0,.slice none 0 0,.slice none 0 0]);have HLV:=hd_ hlv;have HFIN:=hd_ hfin;clear hlv hfin HE HVA HTX HDY HH HGG HBAD HGL HST0;go_upto_region 7 with fail
 clear t0 t1 t2 u0 u1 u2 v0 v1 v2 x0 x1 x2;go_wp2_with (refine wp_row rfl (.tmp 12) (.tmp 87) rfl (w.heap.size+1+1+1+1) #[.string ⟨#[]⟩,.int .i64 0,.slice none 0 0,.string ⟨#[]⟩,.int .i64 0,.slice none 0 0,.slice none 0 0,.slice none 0 0] rfl rfl rfl one8 rfl K4.out ?_)
 exact bodyPost_ret (v:=.tuple #[.agg #[.string ⟨#[]⟩,.int .i64 0,.slice none 0 0,.string ⟨#[]⟩,.int .i64 0,.slice none 0 0,.slice none 0 0,.slice none 0 0],.int .i64 24]) (by simp [results,Tryz.results24,asAddr,HLV.out]) rfl HFIN.out
theorem rapply_any (w:World) (B:Nat) (m:Mt) (x:MtX) (h:MtAt w B m x) (hB:B≤w.heap.size) (hs:Sml m) (hcm:m.rs.length≤x.c3) (g:Mg) (z:MgX) (hg:MgAt w B g z) (hsg:SmlG g) (p:Pc) (y:PcX) (hp:PcAt w B p y) (hsp:SmlP p) (hcp:p.ss.length≤y.c1) (q:Pc) (v:PcX) (hq:PcAt w B q v) (hsq:SmlP q) (hcq:q.ss.length≤v.c1) (day:Int) (D:Option Addr) (l:List Int) (cl:Nat) (hD:IntsAt w B D l) (hll:l.length≤4611686018427387904) :
 Calls Tryz.prog 24 #[.agg (mtC m x),.agg (mgC g z),.agg (pcC p y),.agg (pcC q v),.int .i64 day,.slice D l.length cl] w (MtPost w (applyE m g p q day l) (applyM m g p q day l)):=by
 by_cases hb:apB m g p q day=false∨newSt g m.st<0∨day<m.o∨day<lastI m.o m.mv
 · exact rapply_bad w B m x h hB hs hcm g z hg hsg p y hp hsp hcp q v hq hsq hcq day D l cl hb
 · refine rapply_ok w B m x h hB hs hcm g z hg hsg p y hp hsp hcp q v hq hsq hcq day D l cl hD hll ?_ (fun e=>hb (.inr (.inl e))) (fun e=>hb (.inr (.inr e)))
   cases ha:apB m g p q day with
   | true=>rfl
   | false=>exact absurd (.inl ha) hb
end Go.Proofs.YtknchlpcpgflkaaGreatDoor

import Derived.Test.YtknchlpcpgflkaaGreatDoorKGAZ
import Derived.Test.YtknchlpcpgflkaaGreatDoorKGAY
import Derived.Test.YtknchlpcpgflkaaGreatDoorKWc
import Derived.Test.YtknchlpcpgflkaaGreatDoorKGAM
import Derived.WalkMore
import Derived.Test.YtknchlpcpgflkaaGreatDoorKMw
import Derived.Test.YtknchlpcpgflkaaGreatDoorKGAT
set_option maxRecDepth 100000
set_option maxHeartbeats 16000000
namespace Go.Proofs.YtknchlpcpgflkaaGreatDoor
open Go.RowKit Go.Shelf
theorem gapply_bad (w:World) (ht:Tbs w) (B:Nat) (m:Mt) (x:MtX) (h:MtAt w B m x) (hB:B≤w.heap.size) (hs:Sml m) (g:Mg) (z:MgX) (hg:MgAt w B g z) (hsg:SmlG g) (p:Pc) (y:PcX) (hp:PcAt w B p y) (hsp:SmlP p) (q:Pc) (v:PcX) (hq:PcAt w B q v) (hsq:SmlP q) (day:Int) (D:Option Addr) (l:List Int) (cl:Nat)
 (hbad:apB m g p q day=false∨newSt g m.st<0∨day<m.o∨day<lastI m.o m.mv) :
 Calls Tryz.prog 12 #[.agg (mtC m x),.agg (mgC g z),.agg (pcC p y),.agg (pcC q v),.int .i64 day,.slice D l.length cl] w (MtPost w (applyE m g p q day l) (applyM m g p q day l)):=by
 obtain ⟨E,hE⟩:∃ E,applyE m g p q day l=E:=⟨_,rfl⟩
 have hE0:E≠0:=by
  rw [← hE];unfold applyE;intro he
  split at he
  · simp at he
  · split at he
    · simp at he
    · split at he
      · simp at he
      · rename_i a1 a2 a3
        rcases hbad with h | h | h | h
        · exact a1 h
        · exact a2 h
        · exact a3 (.inl h)
        · exact a3 (.inr h)
 have hM:applyM m g p q day l=Mt.zero:=by unfold applyM;rw [hE,if_neg hE0]
 rw [hM,hE];unfold applyE at hE;clear hM hE0;have hva:=fun W (hW:Below w.heap.size w W)=>gvalid_any W (ht.below hW) B g z (hg.below (hW.mono hB)) (Nat.le_trans hB hW.size) hsg p y (hp.below (hW.mono hB)) hsp q v (hq.below (hW.mono hB)) hsq;have htx:=fun W (hW:Below w.heap.size w W)=>text_any W (ht.below hW) B m x (h.below (hW.mono hB)) (Nat.le_trans hB hW.size) hs;unfold TextPost at htx;obtain ⟨TX,hTX⟩:∃ T,bs (if fmB m=true then textL m else [])=T:=⟨_,rfl⟩;obtain ⟨te,hte⟩:∃ T:Int,(if fmB m=true then 0 else 1)=T:=⟨_,rfl⟩;rw [hTX,hte] at htx;clear hTX;obtain ⟨vv,hvv⟩:∃ b,vdB g p q=b:=⟨_,rfl⟩;obtain ⟨ff,hff⟩:∃ b,fmB m=b:=⟨_,rfl⟩;rw [hvv] at hva;rw [hff] at hte;have hgl:vv=true→g.st.length=p.ss.length:=fun e=>(vdB_iff.1 (hvv.trans e)).2.2.2.2.2.1;have hst0:ff=true→0≤m.st:=fun e=>(fmB_iff.1 (hff.trans e)).2.2.2.1.1;unfold apB at hE hbad;rw [hvv,hff] at hE hbad;have hml:=hs.2.1;clear hvv hff hp hq ht hs hsg hsp hsq;obtain ⟨id,o,cs,pr,st,mv,rs,ls⟩:=m;obtain ⟨a1,c1,a2,c2,a3,c3,a4,c4,lv⟩:=x;obtain ⟨fr,tn,gst,grs,gts⟩:=g;obtain ⟨b1,d1,b2,d2,b3,d3,tv⟩:=z;obtain ⟨pn,pss,pms⟩:=p;obtain ⟨e1,f1,e2,f2⟩:=y;obtain ⟨qn,qss,qms⟩:=q;obtain ⟨i1,j1,i2,j2⟩:=v;simp only at hE hbad hgl hst0 hml;obtain ⟨N,hN⟩:∃ N,rs.length=N:=⟨_,rfl⟩;obtain ⟨K,hK⟩:∃ K,ls.length=K:=⟨_,rfl⟩;obtain ⟨J,hJ⟩:∃ J,gts.length=J:=⟨_,rfl⟩;obtain ⟨k2,hk2⟩:∃ K,mv.length=K:=⟨_,rfl⟩;obtain ⟨pl,hpl⟩:∃ K,pss.length=K:=⟨_,rfl⟩;obtain ⟨gn,hgn⟩:∃ K,gst.length=K:=⟨_,rfl⟩;rw [hk2] at hml;rw [hgn,hpl] at hgl;rw [hpl] at hE hbad;have eM:mtC ⟨id,o,cs,pr,st,mv,rs,ls⟩ ⟨a1,c1,a2,c2,a3,c3,a4,c4,lv⟩=#[.string id,.int .i64 o,.slice a1 cs.length c1,.string pr,.int .i64 st,.slice a2 k2 c2,.slice a3 N c3,.slice a4 K c4]:=by unfold mtC;simp only [hN,hK,hk2]
 have eG:mgC ⟨fr,tn,gst,grs,gts⟩ ⟨b1,d1,b2,d2,b3,d3,tv⟩=#[.string fr,.string tn,.slice b1 gn d1,.slice b2 grs.length d2,.slice b3 J d3]:=by unfold mgC;simp only [hJ,hgn]
 have eP:pcC ⟨pn,pss,pms⟩ ⟨e1,f1,e2,f2⟩=#[.string pn,.slice e1 pl f1,.slice e2 pms.length f2]:=by unfold pcC;simp only [hpl]
 have eQ:pcC ⟨qn,qss,qms⟩ ⟨i1,j1,i2,j2⟩=#[.string qn,.slice i1 qss.length j1,.slice i2 qms.length j2]:=rfl;rw [eG,eP,eQ] at hva;rw [eM] at htx;rw [eM,eG,eP,eQ];have hb:=((((below_self_alloc w (.cells #[.string id,.int .i64 o,.slice a1 cs.length c1,.string pr,.int .i64 st,.slice a2 k2 c2,.slice a3 N c3,.slice a4 K c4] 27)).alloc (by simp) (.cells #[.string fr,.string tn,.slice b1 gn d1,.slice b2 grs.length d2,.slice b3 J d3] 30)).alloc (by simp;omega) (.cells #[.string pn,.slice e1 pl f1,.slice e2 pms.length f2] 34)).alloc (by simp;omega) (.cells #[.string qn,.slice i1 qss.length j1,.slice i2 qms.length j2] 34)).alloc (by simp;omega) (.cells #[.string ⟨#[]⟩,.int .i64 0,.slice none 0 0,.string ⟨#[]⟩,.int .i64 0,.slice none 0 0,.slice none 0 0,.slice none 0 0] 27);have s3:(((w.alloc (.cells #[.string id,.int .i64 o,.slice a1 cs.length c1,.string pr,.int .i64 st,.slice a2 k2 c2,.slice a3 N c3,.slice a4 K c4] 27)).alloc (.cells #[.string fr,.string tn,.slice b1 gn d1,.slice b2 grs.length d2,.slice b3 J d3] 30)).alloc (.cells #[.string pn,.slice e1 pl f1,.slice e2 pms.length f2] 34)).heap.size=w.heap.size+1+1+1:=by simp
 have s4:((((w.alloc (.cells #[.string id,.int .i64 o,.slice a1 cs.length c1,.string pr,.int .i64 st,.slice a2 k2 c2,.slice a3 N c3,.slice a4 K c4] 27)).alloc (.cells #[.string fr,.string tn,.slice b1 gn d1,.slice b2 grs.length d2,.slice b3 J d3] 30)).alloc (.cells #[.string pn,.slice e1 pl f1,.slice e2 pms.length f2] 34)).alloc (.cells #[.string qn,.slice i1 qss.length j1,.slice i2 qms.length j2] 34)).heap.size=w.heap.size+1+1+1+1:=by simp
 have k0:=((((Blk.new w 27 #[.string id,.int .i64 o,.slice a1 cs.length c1,.string pr,.int .i64 st,.slice a2 k2 c2,.slice a3 N c3,.slice a4 K c4]).alloc (.cells #[.string fr,.string tn,.slice b1 gn d1,.slice b2 grs.length d2,.slice b3 J d3] 30)).alloc (.cells #[.string pn,.slice e1 pl f1,.slice e2 pms.length f2] 34)).alloc (.cells #[.string qn,.slice i1 qss.length j1,.slice i2 qms.length j2] 34)).alloc (.cells #[.string ⟨#[]⟩,.int .i64 0,.slice none 0 0,.string ⟨#[]⟩,.int .i64 0,.slice none 0 0,.slice none 0 0,.slice none 0 0] 27);have k1:=(((Blk.new1 w (.cells #[.string id,.int .i64 o,.slice a1 cs.length c1,.string pr,.int .i64 st,.slice a2 k2 c2,.slice a3 N c3,.slice a4 K c4] 27) 30 #[.string fr,.string tn,.slice b1 gn d1,.slice b2 grs.length d2,.slice b3 J d3]).alloc (.cells #[.string pn,.slice e1 pl f1,.slice e2 pms.length f2] 34)).alloc (.cells #[.string qn,.slice i1 qss.length j1,.slice i2 qms.length j2] 34)).alloc (.cells #[.string ⟨#[]⟩,.int .i64 0,.slice none 0 0,.string ⟨#[]⟩,.int .i64 0,.slice none 0 0,.slice none 0 0,.slice none 0 0] 27);have k2':=((Blk.new2 w (.cells #[.string id,.int .i64 o,.slice a1 cs.length c1,.string pr,.int .i64 st,.slice a2 k2 c2,.slice a3 N c3,.slice a4 K c4] 27) (.cells #[.string fr,.string tn,.slice b1 gn d1,.slice b2 grs.length d2,.slice b3 J d3] 30) 34 #[.string pn,.slice e1 pl f1,.slice e2 pms.length f2]).alloc (.cells #[.string qn,.slice i1 qss.length j1,.slice i2 qms.length j2] 34)).alloc (.cells #[.string ⟨#[]⟩,.int .i64 0,.slice none 0 0,.string ⟨#[]⟩,.int .i64 0,.slice none 0 0,.slice none 0 0,.slice none 0 0] 27);have k3:=(Blk.new (((w.alloc (.cells #[.string id,.int .i64 o,.slice a1 cs.length c1,.string pr,.int .i64 st,.slice a2 k2 c2,.slice a3 N c3,.slice a4 K c4] 27)).alloc (.cells #[.string fr,.string tn,.slice b1 gn d1,.slice b2 grs.length d2,.slice b3 J d3] 30)).alloc (.cells #[.string pn,.slice e1 pl f1,.slice e2 pms.length f2] 34)) 34 #[.string qn,.slice i1 qss.length j1,.slice i2 qms.length j2]).alloc (.cells #[.string ⟨#[]⟩,.int .i64 0,.slice none 0 0,.string ⟨#[]⟩,.int .i64 0,.slice none 0 0,.slice none 0 0,.slice none 0 0] 27);have k4:=Blk.new ((((w.alloc (.cells #[.string id,.int .i64 o,.slice a1 cs.length c1,.string pr,.int .i64 st,.slice a2 k2 c2,.slice a3 N c3,.slice a4 K c4] 27)).alloc (.cells #[.string fr,.string tn,.slice b1 gn d1,.slice b2 grs.length d2,.slice b3 J d3] 30)).alloc (.cells #[.string pn,.slice e1 pl f1,.slice e2 pms.length f2] 34)).alloc (.cells #[.string qn,.slice i1 qss.length j1,.slice i2 qms.length j2] 34)) 27 #[.string ⟨#[]⟩,.int .i64 0,.slice none 0 0,.string ⟨#[]⟩,.int .i64 0,.slice none 0 0,.slice none 0 0,.slice none 0 0];rw [s3] at k3;rw [s4] at k4;have HB:=hd_ hb;have K0:=hd_ k0;have K1:=hd_ k1;have K2:=hd_ k2';have K3:=hd_ k3;have K4:=hd_ k4;have HVA:=hd_ hva;have HTX:=hd_ htx;have HH:=hd_ h;have HGG:=hd_ hg;have HE:=hd_ hE;have HBB:=hd_ hB;have HK2:=hd_ hk2;have HGN:=hd_ hgn;have HTE:=hd_ hte;have HBAD:=hd_ hbad;have HGL:=hd_ hgl;have HST0:=hd_ hst0;obtain ⟨t0,t1,t2⟩:=k0.all;obtain ⟨u0,u1,u2⟩:=k1.all;obtain ⟨v0,v1,v2⟩:=k2'.all;obtain ⟨x0,x1,x2⟩:=k3.all;clear hb s3 s4 k0 k1 k2' k3 k4 hva htx h hg hE eM eG eP eQ hN hK hk2 hJ hpl hgn hB hte hbad hgl hst0;go_enter Tryz.func12,Tryz.ntmps12
 go_upto_region 1 with fail
 generalize ((((w.alloc (.cells #[.string id,.int .i64 o,.slice a1 cs.length c1,.string pr,.int .i64 st,.slice a2 k2 c2,.slice a3 N c3,.slice a4 K c4] 27)).alloc (.cells #[.string fr,.string tn,.slice b1 gn d1,.slice b2 grs.length d2,.slice b3 J d3] 30)).alloc (.cells #[.string pn,.slice e1 pl f1,.slice e2 pms.length f2] 34)).alloc (.cells #[.string qn,.slice i1 qss.length j1,.slice i2 qms.length j2] 34)).alloc (.cells #[.string ⟨#[]⟩,.int .i64 0,.slice none 0 0,.string ⟨#[]⟩,.int .i64 0,.slice none 0 0,.slice none 0 0,.slice none 0 0] 27)=W0 at *;apply wp_scope_straight;go_wp2_with fail
 refine (HTX.out W0 HB.out).mono ?_;rintro e W1 ⟨rfl,b1'⟩;replace HB:=hd_ (HB.out.trans (b1'.mono HB.out.size));replace K0:=hd_ (K0.out.below b1' K0.out.lt);replace K1:=hd_ (K1.out.below b1' K1.out.lt);replace K2:=hd_ (K2.out.below b1' K2.out.lt);replace K3:=hd_ (K3.out.below b1' K3.out.lt);replace K4:=hd_ (K4.out.below b1' K4.out.lt);clear b1';clear t0 t1 t2 u0 u1 u2 v0 v1 v2 x0 x1 x2;obtain ⟨t0,t1,t2⟩:=K0.out.all;obtain ⟨u0,u1,u2⟩:=K1.out.all;obtain ⟨v0,v1,v2⟩:=K2.out.all;obtain ⟨x0,x1,x2⟩:=K3.out.all;go_wp2_with fail
 refine (HVA.out W1 HB.out).mono ?_;rintro e W2 ⟨rfl,b2'⟩;replace HB:=hd_ (HB.out.trans (b2'.mono HB.out.size));replace K0:=hd_ (K0.out.below b2' K0.out.lt);replace K1:=hd_ (K1.out.below b2' K1.out.lt);replace K2:=hd_ (K2.out.below b2' K2.out.lt);replace K3:=hd_ (K3.out.below b2' K3.out.lt);replace K4:=hd_ (K4.out.below b2' K4.out.lt);clear b2';clear t0 t1 t2 u0 u1 u2 v0 v1 v2 x0 x1 x2;obtain ⟨t0,t1,t2⟩:=K0.out.all;obtain ⟨u0,u1,u2⟩:=K1.out.all;obtain ⟨v0,v1,v2⟩:=K2.out.all;have hlv:=row_load K4.out #[.string ⟨#[]⟩,.int .i64 0,.slice none 0 0,.string ⟨#[]⟩,.int .i64 0,.slice none 0 0,.slice none 0 0,.slice none 0 0] rfl;have hfin:=fun E=>mt_err (w:=w) (E:=E) (below_row HB.out (show w.heap.size≤w.heap.size+1+1+1+1 by omega) #[.string ⟨#[]⟩,.int .i64 0,.slice none 0 0,.string ⟨#[]⟩,.int .i64 0,.slice none 0 0,.slice none 0 0,.slice none 0 0]);have HLV:=hd_ hlv;have HFIN:=hd_ hfin;clear hlv hfin
 cases vv with
 | false=>
  have hEE:E=1:=by rw [← HE.out];rw [if_pos (by simp)]
  subst hEE;clear HE HVA HTX HH HGG HBAD HGL HST0;go_upto_region 3 with fail
  clear t0 t1 t2 u0 u1 u2 v0 v1 v2;go_wp2_with (refine wp_row rfl (.tmp 12) (.tmp 67) rfl (w.heap.size+1+1+1+1) #[.string ⟨#[]⟩,.int .i64 0,.slice none 0 0,.string ⟨#[]⟩,.int .i64 0,.slice none 0 0,.slice none 0 0,.slice none 0 0] rfl rfl rfl one8 rfl K4.out ?_)
  rw [Exit.noGoto_ret];exact bodyPost_ret (v:=.tuple #[.agg #[.string ⟨#[]⟩,.int .i64 0,.slice none 0 0,.string ⟨#[]⟩,.int .i64 0,.slice none 0 0,.slice none 0 0,.slice none 0 0],.int .i64 1]) (by simp [results,Tryz.results12,asAddr,HLV.out]) rfl (HFIN.out 1)
 | true=>
 cases ff with
 | false=>
  have hte:te=1:=HTE.out.symm;subst hte;have hEE:E=1:=by rw [← HE.out];rw [if_pos (by simp)]
  subst hEE;clear HE HVA HTX HH HGG HBAD HGL HST0;go_upto_region 3 with fail
  clear t0 t1 t2 u0 u1 u2 v0 v1 v2;go_wp2_with (refine wp_row rfl (.tmp 12) (.tmp 67) rfl (w.heap.size+1+1+1+1) #[.string ⟨#[]⟩,.int .i64 0,.slice none 0 0,.string ⟨#[]⟩,.int .i64 0,.slice none 0 0,.slice none 0 0,.slice none 0 0] rfl rfl rfl one8 rfl K4.out ?_)
  rw [Exit.noGoto_ret];exact bodyPost_ret (v:=.tuple #[.agg #[.string ⟨#[]⟩,.int .i64 0,.slice none 0 0,.string ⟨#[]⟩,.int .i64 0,.slice none 0 0,.slice none 0 0,.slice none 0 0],.int .i64 1]) (by simp [results,Tryz.results12,asAddr,HLV.out]) rfl (HFIN.out 1)
 | true=>
 have hte:te=0:=HTE.out.symm;subst hte;by_cases h3:pr=fr
 case neg=>
  have e3:=str_no h3;have hEE:E=1:=by rw [← HE.out];rw [if_pos (by simp [h3])]
  subst hEE;clear HE HVA HTX HH HGG HBAD HGL HST0;go_upto_region 3 with fail
  clear t0 t1 t2 u0 u1 u2 v0 v1 v2;go_wp2_with (refine wp_row rfl (.tmp 12) (.tmp 67) rfl (w.heap.size+1+1+1+1) #[.string ⟨#[]⟩,.int .i64 0,.slice none 0 0,.string ⟨#[]⟩,.int .i64 0,.slice none 0 0,.slice none 0 0,.slice none 0 0] rfl rfl rfl one8 rfl K4.out ?_)
  rw [Exit.noGoto_ret];exact bodyPost_ret (v:=.tuple #[.agg #[.string ⟨#[]⟩,.int .i64 0,.slice none 0 0,.string ⟨#[]⟩,.int .i64 0,.slice none 0 0,.slice none 0 0,.slice none 0 0],.int .i64 1]) (by simp [results,Tryz.results12,asAddr,HLV.out]) rfl (HFIN.out 1)
 have e3:(pr.toList == fr.toList)=true:=by rw [h3];simp
 by_cases h4:st<(pl:Int)
 case neg=>
  have e4:decide ((pl:Int)≤st)=true:=decide_eq_true (by omega);have hEE:E=1:=by rw [← HE.out];rw [if_pos (by simp [h4])]
  subst hEE;clear HE HVA HTX HH HGG HBAD HGL HST0;go_upto_region 3 with fail
  clear t0 t1 t2 u0 u1 u2 v0 v1 v2;go_wp2_with (refine wp_row rfl (.tmp 12) (.tmp 67) rfl (w.heap.size+1+1+1+1) #[.string ⟨#[]⟩,.int .i64 0,.slice none 0 0,.string ⟨#[]⟩,.int .i64 0,.slice none 0 0,.slice none 0 0,.slice none 0 0] rfl rfl rfl one8 rfl K4.out ?_)
  rw [Exit.noGoto_ret];exact bodyPost_ret (v:=.tuple #[.agg #[.string ⟨#[]⟩,.int .i64 0,.slice none 0 0,.string ⟨#[]⟩,.int .i64 0,.slice none 0 0,.slice none 0 0,.slice none 0 0],.int .i64 1]) (by simp [results,Tryz.results12,asAddr,HLV.out]) rfl (HFIN.out 1)
 have e4:decide ((pl:Int)≤st)=false:=decide_eq_false (by omega);by_cases h5:day<0
 case pos=>
  have e5:decide (day<0)=true:=decide_eq_true h5;have hEE:E=1:=by rw [← HE.out];rw [if_pos (by have:isB day=false:=by { cases hq:isB day with | false=>rfl | true=>have:=(isB_iff _).1 hq;omega };simp [this])]
  subst hEE;clear HE HVA HTX HH HGG HBAD HGL HST0;go_upto_region 3 with fail
  clear t0 t1 t2 u0 u1 u2 v0 v1 v2;go_wp2_with (refine wp_row rfl (.tmp 12) (.tmp 67) rfl (w.heap.size+1+1+1+1) #[.string ⟨#[]⟩,.int .i64 0,.slice none 0 0,.string ⟨#[]⟩,.int .i64 0,.slice none 0 0,.slice none 0 0,.slice none 0 0] rfl rfl rfl one8 rfl K4.out ?_)
  rw [Exit.noGoto_ret];exact bodyPost_ret (v:=.tuple #[.agg #[.string ⟨#[]⟩,.int .i64 0,.slice none 0 0,.string ⟨#[]⟩,.int .i64 0,.slice none 0 0,.slice none 0 0,.slice none 0 0],.int .i64 1]) (by simp [results,Tryz.results12,asAddr,HLV.out]) rfl (HFIN.out 1)
 have e5:decide (day<0)=false:=decide_eq_false h5;by_cases h6:1000000<day
 case pos=>
  have e6:decide (1000000<day)=true:=decide_eq_true h6;have hEE:E=1:=by rw [← HE.out];rw [if_pos (by have:isB day=false:=by { cases hq:isB day with | false=>rfl | true=>have:=(isB_iff _).1 hq;omega };simp [this])]
  subst hEE;clear HE HVA HTX HH HGG HBAD HGL HST0;go_upto_region 3 with fail
  clear t0 t1 t2 u0 u1 u2 v0 v1 v2;go_wp2_with (refine wp_row rfl (.tmp 12) (.tmp 67) rfl (w.heap.size+1+1+1+1) #[.string ⟨#[]⟩,.int .i64 0,.slice none 0 0,.string ⟨#[]⟩,.int .i64 0,.slice none 0 0,.slice none 0 0,.slice none 0 0] rfl rfl rfl one8 rfl K4.out ?_)
  rw [Exit.noGoto_ret];exact bodyPost_ret (v:=.tuple #[.agg #[.string ⟨#[]⟩,.int .i64 0,.slice none 0 0,.string ⟨#[]⟩,.int .i64 0,.slice none 0 0,.slice none 0 0,.slice none 0 0],.int .i64 1]) (by simp [results,Tryz.results12,asAddr,HLV.out]) rfl (HFIN.out 1)
 have e6:decide (1000000<day)=false:=decide_eq_false h6;have hday:isB day=true:=(isB_iff _).2 ⟨by omega,by omega⟩;have hall:¬ ((true && (true && (decide (pr=fr) && (decide (st<(pl:Int)) && isB day))))=false):=by rw [hday,decide_eq_true h3,decide_eq_true h4];simp
 have HALL:=hd_ hall;have hst0:=HST0.out rfl;have hgl:=HGL.out rfl;obtain ⟨sn,rfl⟩:∃ n:Nat,st=(n:Int):=⟨st.toNat,by omega⟩;obtain ⟨ns,hns⟩:∃ s,gst[sn]? = some s:=⟨_,List.getElem?_eq_getElem (by rw [HGN.out];omega)⟩;have hnw:newSt ⟨fr,tn,gst,grs,gts⟩ (sn:Int)=ns:=by show (gst[(sn:Int).toNat]?).getD 0=ns;rw [Int.toNat_natCast,hns];rfl
 obtain ⟨ga,oa,hAg,hga,pg⟩:=(HGG.out.below (HB.out.mono HBB.out)).st sn ns hns;have hAg:b1=some ⟨ga,oa,none⟩:=hAg;subst hAg;have pg:W2.cell? ⟨ga,oa+sn,none⟩=some (.int .i64 ns):=pg;have ib0:(0:Int)≤(sn:Int):=hst0;have ib1:(sn:Int)<(gn:Int):=by omega
 have HNW:=hd_ hnw;clear hday hall hns hnw hst0 hgl;by_cases h7:ns<0
 case pos=>
  have e7:decide (ns<0)=true:=decide_eq_true h7;have hEE:E=12:=by rw [← HE.out];rw [if_neg HALL.out,if_pos (by rw [HNW.out];exact h7)]
  subst hEE;clear HE HVA HTX HH HGG HBAD HGL HST0;go_upto_region 5 with fail
  clear t0 t1 t2 u0 u1 u2 v0 v1 v2;go_wp2_with (refine wp_row rfl (.tmp 12) (.tmp 76) rfl (w.heap.size+1+1+1+1) #[.string ⟨#[]⟩,.int .i64 0,.slice none 0 0,.string ⟨#[]⟩,.int .i64 0,.slice none 0 0,.slice none 0 0,.slice none 0 0] rfl rfl rfl one8 rfl K4.out ?_)
  rw [Exit.noGoto_ret];exact bodyPost_ret (v:=.tuple #[.agg #[.string ⟨#[]⟩,.int .i64 0,.slice none 0 0,.string ⟨#[]⟩,.int .i64 0,.slice none 0 0,.slice none 0 0,.slice none 0 0],.int .i64 12]) (by simp [results,Tryz.results12,asAddr,HLV.out]) rfl (HFIN.out 12)
 have e7:decide (ns<0)=false:=decide_eq_false h7;by_cases h8:day<o
 case pos=>
  have e8:decide (day<o)=true:=decide_eq_true h8;have hEE:E=24:=by rw [← HE.out];rw [if_neg HALL.out,if_neg (by rw [HNW.out];exact h7),if_pos (.inl h8)]
  subst hEE;clear HE HVA HTX HH HGG HBAD HGL HST0;go_upto_region 7 with fail
  clear t0 t1 t2 u0 u1 u2 v0 v1 v2;go_wp2_with (refine wp_row rfl (.tmp 12) (.tmp 100) rfl (w.heap.size+1+1+1+1) #[.string ⟨#[]⟩,.int .i64 0,.slice none 0 0,.string ⟨#[]⟩,.int .i64 0,.slice none 0 0,.slice none 0 0,.slice none 0 0] rfl rfl rfl one8 rfl K4.out ?_)
  rw [Exit.noGoto_ret];exact bodyPost_ret (v:=.tuple #[.agg #[.string ⟨#[]⟩,.int .i64 0,.slice none 0 0,.string ⟨#[]⟩,.int .i64 0,.slice none 0 0,.slice none 0 0,.slice none 0 0],.int .i64 24]) (by simp [results,Tryz.results12,asAddr,HLV.out]) rfl (HFIN.out 24)
 have e8:decide (day<o)=false:=decide_eq_false h8
 have hlast:day<lastI o mv:=by
  rcases HBAD.out with h | h | h | h
  · exact absurd h HALL.out
  · rw [HNW.out] at h;exact absurd h h7
  · exact absurd h h8
  · exact h
 have hlt:day<lastI o mv:=hlast
 have hk0:0<k2:=by
  rw [← HK2.out];rcases Nat.eq_zero_or_pos mv.length with h | h
  · rw [List.eq_nil_of_length_eq_zero h] at hlast
    exact absurd hlast h8
  · exact h
 obtain ⟨k3,rfl⟩:∃ k,k2=k+1:=⟨k2 - 1,by omega⟩;obtain ⟨r,hr⟩:∃ r,mv[k3]? = some r:=⟨_,List.getElem?_eq_getElem (by rw [HK2.out];omega)⟩;unfold lastI at hlt;rw [List.getLast?_eq_getElem?,HK2.out,show k3+1 - 1=k3 by omega,hr] at hlt;have hlt:day<r:=hlt;obtain ⟨gm,om,hAm,hgm,pm⟩:=(HH.out.below (HB.out.mono HBB.out)).mv k3 r hr;have hAm:a2=some ⟨gm,om,none⟩:=hAm;subst hAm;have pm:W2.cell? ⟨gm,om+k3,none⟩=some (.int .i64 r):=pm;have ic:decide ((0:Int)<((k3+1:Nat):Int))=true:=decide_eq_true (by omega);have ic1:wrap64 (((k3+1:Nat):Int) - 1)=(k3:Int):=by unfold wrap64;omega
 have ic2:(0:Int)≤(k3:Int):=by omega
 have ic3:(k3:Int)<((k3+1:Nat):Int):=by omega
 have e9:decide (day<r)=true:=decide_eq_true hlt;have HLAST:=hd_ hlast;clear hlast hr hk0;have hEE:E=24:=by rw [← HE.out];rw [if_neg HALL.out,if_neg (by rw [HNW.out];exact h7),if_pos (.inr HLAST.out)]
 subst hEE;clear HE HVA HTX HH HGG HBAD HGL HST0;go_upto_region 7 with fail
 clear t0 t1 t2 u0 u1 u2 v0 v1 v2;go_wp2_with (refine wp_row rfl (.tmp 12) (.tmp 100) rfl (w.heap.size+1+1+1+1) #[.string ⟨#[]⟩,.int .i64 0,.slice none 0 0,.string ⟨#[]⟩,.int .i64 0,.slice none 0 0,.slice none 0 0,.slice none 0 0] rfl rfl rfl one8 rfl K4.out ?_)
 rw [Exit.noGoto_ret];exact bodyPost_ret (v:=.tuple #[.agg #[.string ⟨#[]⟩,.int .i64 0,.slice none 0 0,.string ⟨#[]⟩,.int .i64 0,.slice none 0 0,.slice none 0 0,.slice none 0 0],.int .i64 24]) (by simp [results,Tryz.results12,asAddr,HLV.out]) rfl (HFIN.out 24)
theorem gapply_any (w:World) (ht:Tbs w) (B:Nat) (m:Mt) (x:MtX) (h:MtAt w B m x) (hB:B≤w.heap.size) (hs:Sml m) (g:Mg) (z:MgX) (hg:MgAt w B g z) (hsg:SmlG g) (p:Pc) (y:PcX) (hp:PcAt w B p y) (hsp:SmlP p) (q:Pc) (v:PcX) (hq:PcAt w B q v) (hsq:SmlP q) (day:Int) (D:Option Addr) (l:List Int) (cl:Nat) (hD:IntsAt w B D l) (hll:l.length≤4611686018427387904) (hw:∀ n∈l,wf64 n) :
 Calls Tryz.prog 12 #[.agg (mtC m x),.agg (mgC g z),.agg (pcC p y),.agg (pcC q v),.int .i64 day,.slice D l.length cl] w (MtPost w (applyE m g p q day l) (applyM m g p q day l)):=by
 by_cases hb:apB m g p q day=false∨newSt g m.st<0∨day<m.o∨day<lastI m.o m.mv
 · exact gapply_bad w ht B m x h hB hs g z hg hsg p y hp hsp q v hq hsq day D l cl hb
 · refine gapply_ok w ht B m x h hB hs g z hg hsg p y hp hsp q v hq hsq day D l cl hD hll hw ?_ (fun e=>hb (.inr (.inl e))) (fun e=>hb (.inr (.inr e)))
   cases ha:apB m g p q day with
   | true=>rfl
   | false=>exact absurd (.inl ha) hb
theorem gends_any (w:World) (B:Nat) (p:Pc) (y:PcX) (h:PcAt w B p y) (hB:B≤w.heap.size) (hin:MvIn p.ss.length p.ms) (hl:p.ms.length≤1000000) (hl2:p.ss.length≤1000000) :
 Calls Tryz.prog 46 #[.agg (pcC p y)] w fun e w'=>∃ b V,e = .returned (.map (some b))∧w.heap.size≤b∧MapV w' b (kInts V)∧(∀ x,x∈V↔endB p x=true)∧Below w.heap.size w w':=by
 have hms:=h.ms;have hback:=fun b bm bp bc=>back_any B b bm bp bc p y hin hl (p.ss.length+1);have hmm := @run_makeMap Tryz.prog;show Calls Tryz.prog 46 #[.agg #[.string p.name,.slice y.a1 p.ss.length y.c1,.slice y.a2 p.ms.length y.c2]] w _;have hb:=below_self_alloc w (.cells #[.string p.name,.slice y.a1 p.ss.length y.c1,.slice y.a2 p.ms.length y.c2] 34);have kx:=Blk.new w 34 #[.string p.name,.slice y.a1 p.ss.length y.c1,.slice y.a2 p.ms.length y.c2];obtain ⟨t0,t1,t2⟩:=kx.all;go_enter Tryz.func46,Tryz.ntmps46
 go_wp2_with fail
 have z1:(w.alloc (.cells #[.string p.name,.slice y.a1 p.ss.length y.c1,.slice y.a2 p.ms.length y.c2] 34)).heap.size=w.heap.size+1:=by simp
 have z2:((w.alloc (.cells #[.string p.name,.slice y.a1 p.ss.length y.c1,.slice y.a2 p.ms.length y.c2] 34)).alloc (.map #[] 0)).heap.size=w.heap.size+1+1:=by simp
 have z3:(((w.alloc (.cells #[.string p.name,.slice y.a1 p.ss.length y.c1,.slice y.a2 p.ms.length y.c2] 34)).alloc (.map #[] 0)).alloc (.cells #[.map (some (w.heap.size+1))] 98)).heap.size=w.heap.size+1+1+1:=by simp
 have q1:MapV ((w.alloc (.cells #[.string p.name,.slice y.a1 p.ss.length y.c1,.slice y.a2 p.ms.length y.c2] 34)).alloc (.map #[] 0)) (w.heap.size+1) []:=by have:=MapV.made (w.alloc (.cells #[.string p.name,.slice y.a1 p.ss.length y.c1,.slice y.a2 p.ms.length y.c2] 34));rwa [z1] at this
 have q2:Blk (((w.alloc (.cells #[.string p.name,.slice y.a1 p.ss.length y.c1,.slice y.a2 p.ms.length y.c2] 34)).alloc (.map #[] 0)).alloc (.cells #[.map (some (w.heap.size+1))] 98)) (w.heap.size+1+1) 98 #[.map (some (w.heap.size+1))]:=by have:=Blk.new ((w.alloc (.cells #[.string p.name,.slice y.a1 p.ss.length y.c1,.slice y.a2 p.ms.length y.c2] 34)).alloc (.map #[] 0)) 98 #[.map (some (w.heap.size+1))];rwa [z2] at this
 have q3:Blk ((((w.alloc (.cells #[.string p.name,.slice y.a1 p.ss.length y.c1,.slice y.a2 p.ms.length y.c2] 34)).alloc (.map #[] 0)).alloc (.cells #[.map (some (w.heap.size+1))] 98)).alloc (.cells #[.func (.func 96) #[] #[.pointer (some ⟨w.heap.size+1+1,0,none⟩),.pointer (some ⟨w.heap.size,0,none⟩),.pointer (some ⟨w.heap.size+1+1+1,0,none⟩)]] 137)) (w.heap.size+1+1+1) 137 #[.func (.func 96) #[] #[.pointer (some ⟨w.heap.size+1+1,0,none⟩),.pointer (some ⟨w.heap.size,0,none⟩),.pointer (some ⟨w.heap.size+1+1+1,0,none⟩)]]:=by have:=Blk.new (((w.alloc (.cells #[.string p.name,.slice y.a1 p.ss.length y.c1,.slice y.a2 p.ms.length y.c2] 34)).alloc (.map #[] 0)).alloc (.cells #[.map (some (w.heap.size+1))] 98)) 137 #[.func (.func 96) #[] #[.pointer (some ⟨w.heap.size+1+1,0,none⟩),.pointer (some ⟨w.heap.size,0,none⟩),.pointer (some ⟨w.heap.size+1+1+1,0,none⟩)]];rwa [z3] at this
 have hb4:Below w.heap.size w ((((w.alloc (.cells #[.string p.name,.slice y.a1 p.ss.length y.c1,.slice y.a2 p.ms.length y.c2] 34)).alloc (.map #[] 0)).alloc (.cells #[.map (some (w.heap.size+1))] 98)).alloc (.cells #[.func (.func 96) #[] #[.pointer (some ⟨w.heap.size+1+1,0,none⟩),.pointer (some ⟨w.heap.size,0,none⟩),.pointer (some ⟨w.heap.size+1+1+1,0,none⟩)]] 137)):=(((hb.alloc hb.size _).alloc (by rw [z2];omega) _).alloc (by rw [z3];omega) _);have HK:=hd_ (⟨q2.alloc _,((kx.alloc _).alloc _).alloc _,q3,hms.below (hb4.mono hB),Nat.le_trans hB hb4.size,by omega,by omega,by omega,by omega⟩:BkAt ((((w.alloc (.cells #[.string p.name,.slice y.a1 p.ss.length y.c1,.slice y.a2 p.ms.length y.c2] 34)).alloc (.map #[] 0)).alloc (.cells #[.map (some (w.heap.size+1))] 98)).alloc (.cells #[.func (.func 96) #[] #[.pointer (some ⟨w.heap.size+1+1,0,none⟩),.pointer (some ⟨w.heap.size,0,none⟩),.pointer (some ⟨w.heap.size+1+1+1,0,none⟩)]] 137)) B (w.heap.size+1) (w.heap.size+1+1) w.heap.size (w.heap.size+1+1+1) p y);have HM:=hd_ ((q1.alloc (.cells #[.map (some (w.heap.size+1))] 98)).alloc (.cells #[.func (.func 96) #[] #[.pointer (some ⟨w.heap.size+1+1,0,none⟩),.pointer (some ⟨w.heap.size,0,none⟩),.pointer (some ⟨w.heap.size+1+1+1,0,none⟩)]] 137));have HB4:=hd_ hb4;have HIN:=hd_ hin;have HBK:=hd_ hback;clear z1 z2 z3 q1 q2 q3 hb4 hb kx hms h hin hback hmm t0 t1 t2;generalize (((w.alloc (.cells #[.string p.name,.slice y.a1 p.ss.length y.c1,.slice y.a2 p.ms.length y.c2] 34)).alloc (.map #[] 0)).alloc (.cells #[.map (some (w.heap.size+1))] 98)).alloc (.cells #[.func (.func 96) #[] #[.pointer (some ⟨w.heap.size+1+1,0,none⟩),.pointer (some ⟨w.heap.size,0,none⟩),.pointer (some ⟨w.heap.size+1+1+1,0,none⟩)]] 137)=W4 at *;go_loopw [11] (fun i wr=>∃ k:Nat,k≤p.ss.length∧i = .int .i64 (k:Int)∧∃ V,Hid (SeenK p V k)∧Hid (MapV wr (w.heap.size+1) (kInts V))∧Hid (BkAt wr B (w.heap.size+1) (w.heap.size+1+1) w.heap.size (w.heap.size+1+1+1) p y)∧Hid (Below w.heap.size w wr)) (fun i _=>p.ss.length - (intOf i).toNat)
 case atStart=>exact ⟨0,Nat.zero_le _,rfl,[],hd_ (SeenK.zero p),HM,HK,HB4⟩
 case round=>
  clear HM HK HB4;obtain ⟨k,hk,rfl,V,HS,HM,HK,HB⟩:=hrel;by_cases hlt:k<p.ss.length
  · obtain ⟨t0,t1,t2⟩:=HK.out.cp.all
    have kb:=Blk.new wr 3 #[.int .i64 (k:Int)];have ba:=below_self_alloc wr (.cells #[.int .i64 (k:Int)] 3);have HKa:=hd_ (HK.out.only (Only.of_below ba _));have HMa:=hd_ (HM.out.alloc (.cells #[.int .i64 (k:Int)] 3));have HBa:=hd_ (HB.out.alloc HB.out.size (.cells #[.int .i64 (k:Int)] 3));obtain ⟨r,hr⟩:∃ r,(p.ms.any fun m=>decide (m.1=(k:Int)))=r:=⟨_,rfl⟩;have hc:=containsM_any (wr.alloc (.cells #[.int .i64 (k:Int)] 3)) B y.a2 p.ms y.c2 HKa.out.ms HKa.out.hB (by omega) (fun m=>decide (m.1=(k:Int))) 98 #[.pointer (some ⟨wr.heap.size,0,none⟩)] (enters_of Tryz.func98 (by kernel_rfl) rfl) (fun W m _ hW=>gfrom_any W wr.heap.size (k:Int) ((kb.below hW kb.lt).cell 0) (kb.below hW kb.lt).lt m);rw [hr] at hc;have HC:=hd_ hc;have HR:=hd_ hr;obtain ⟨u0,u1,u2⟩:=kb.all;obtain ⟨v0,v1,v2⟩:=HKa.out.cp.all;have v0':∀ i,(wr.alloc (.cells #[.int .i64 (k:Int)] 3)).cell? ⟨w.heap.size,i,none⟩=(#[.string p.name,.slice y.a1 p.ss.length y.c1,.slice y.a2 p.ms.length y.c2]:Array Value)[i]?:=v0;clear hc hr kb t0 t1 t2 v0;go_wp2_with fail
    refine HC.out.mono ?_;rintro e w2 ⟨rfl,b2⟩;have HK2:=hd_ (HKa.out.only (Only.of_below b2 _));have HM2:=hd_ (HMa.out.below b2 HMa.out.lt);have HB2:=hd_ (HBa.out.trans (b2.mono HBa.out.size));have KB2:=hd_ ((Blk.new wr 3 #[.int .i64 (k:Int)]).below b2 (Blk.new wr 3 #[.int .i64 (k:Int)]).lt);clear b2 HC u0 u1 u2 v0' v1 v2 HKa HMa HBa ba
    cases r with
    | true=>
     obtain ⟨m,hm,he⟩:=List.any_eq_true.1 HR.out;have HS2:=hd_ (HS.out.skip hm (of_decide_eq_true he));clear hm he HR;go_wp2
     go_roundw
     case rel=>exact ⟨k+1,by omega,by go_num,V,HS2,HM2,HK2,HB2⟩
     case measure=>simp [intOf];omega
    | false=>
     have hend:endAt p (k:Int):=⟨by omega,by omega,fun m hm he=>by
      have:=(List.any_eq_false.1 HR.out) m hm;exact this (decide_eq_true he)⟩
     have HE:=hd_ hend;clear hend HR;have HC:=hd_ (HBK.out _ _ _ _ w2 V (k:Int) HK2.out HM2.out HS.out.nd (fun x hx=>(HS.out.ends x hx).in_ HIN.out) ⟨by omega,by omega⟩ (by omega));obtain ⟨u0,u1,u2⟩:=KB2.out.all;obtain ⟨v0,v1,v2⟩:=HK2.out.cf.all;go_wp2_with fail
     refine HC.out.mono ?_;rintro e w3 ⟨rfl,X,hX,hMX,hOX⟩;have HS2:=hd_ (HS.out.next HE.out hX);have HM3:=hd_ hMX;have HK3:=hd_ (HK2.out.only hOX);have HB3:=hd_ (HB2.out.trans (hOX.below HB2.out.size fun i hi=>by omega));clear hX hMX hOX u0 u1 u2 v0 v1 v2 HC;go_wp2
     go_roundw
     case rel=>exact ⟨k+1,by omega,by go_num,V++X,HS2,HM3,HK3,HB3⟩
     case measure=>simp [intOf];omega
  · obtain rfl:k=p.ss.length:=by omega
    obtain ⟨t0,t1,t2⟩:=HK.out.cm.all;have HD:=hd_ HS.out.done;clear HS HIN HBK;go_wp2
    go_ret
    exact ⟨_,V,rfl,by omega,HM.out,HD.out,HB.out⟩
export Lim (letter_any digit_any word_any wrd_go nm_wrd wrd_no name_any rStop_any rTerm_any rIs_any all_take rProper_any)
theorem rname07_any (w:World) (s:ByteArray) (hs:s.size≤9223372036854775807):Calls Tryz.prog 122 #[.string s] w fun e w'=>e = .returned (.bool (nmB s.data.toList))∧w=w':=by
 have hsz:s.data.toList.length=s.size:=rfl;have HL:=hd_ hsz;clear hsz;obtain ⟨r,hr⟩:∃ r,r=nmB s.data.toList:=⟨_,rfl⟩;rw [← hr];have HR:=hd_ hr;clear hr;go_enter Tryz.func122,Tryz.ntmps122
 go_wp2_with fail
 go_loop [3] (fun i=>∃ k:Nat,k≤s.size∧i = .int .i64 (k:Int)∧Hid (nmGo 0 (s.data.toList.take k)=true)) (fun i=>s.size - (intOf i).toNat)
 case atStart=>exact ⟨0,Nat.zero_le _,rfl,hd_ rfl⟩
 case round=>
  obtain ⟨k,hk,rfl,hn⟩:=hrel;by_cases hlt:k<s.size
  · obtain ⟨c,hc⟩:∃ c,s.data.toList[k]? = some c:=⟨_,List.getElem?_eq_getElem (by rw [HL.out];exact hlt)⟩
    have hget:s[k]=c:=by
     obtain ⟨h1,h2⟩:=List.getElem?_eq_some_iff.1 hc;rw [← h2];rfl
    have HC:=hd_ hc;clear hc;have h255:=c.toNat_lt;have hcl:(c.toNat≤47∨(58≤c.toNat∧c.toNat≤64)∨(91≤c.toNat∧c.toNat≤94)∨c.toNat=96∨123≤c.toNat)∨((48≤c.toNat∧c.toNat≤57)∨c.toNat=95)∨(65≤c.toNat∧c.toNat≤90)∨(97≤c.toNat∧c.toNat≤122):=by omega
    rcases hcl with hcl | hcl | hcl
    · have hok:okAt k c=false:=by simp [okAt,letB,digB];omega
      have e95:((c.toNat:Int) == 95)=false:=by simp;omega
      have n95:((c.toNat:Int) != 95)=true:=by simp;omega
      have hno:=nmGo_no HC.out hok;have e:nmB s.data.toList=false:=by unfold nmB;rw [hno];rfl
      have HE:=hd_ (HR.out.trans e);clear e hno hok HC;have hk0:((k:Int) == 0)=true∨((k:Int) == 0)=false:=by cases ((k:Int) == 0) <;> simp
      rcases hk0 with e0 | e0 <;> rcases hcl with h | h | h | h | h <;> cases d57:decide ((c.toNat:Int)≤57) <;> cases d90:decide ((c.toNat:Int)≤90) <;> cases d122:decide ((c.toNat:Int)≤122)
      all_goals first
       | (exfalso;simp at d57 d90 d122;omega)
       | (go_wp2;go_ret;exact ⟨by rw [HE.out];rfl,rfl⟩)
    · cases h0:decide (0<k) with
      | false=>
       have hk0:k=0:=by simpa using h0
       have hok:okAt k c=false:=by
        subst hk0;simp [okAt,letB,digB];omega
       have e0:((k:Int) == 0)=true:=by simpa using hk0
       have hno:=nmGo_no HC.out hok;have e:nmB s.data.toList=false:=by unfold nmB;rw [hno];rfl
       have HE:=hd_ (HR.out.trans e);clear e hno hok HC hk0 h0;rcases hcl with h | h
       · cases e95:((c.toNat:Int) == 95) with
         | true=>exfalso;simp at e95;omega
         | false=>
          go_wp2
          go_ret
          exact ⟨by rw [HE.out];rfl,rfl⟩
       · have e95:((c.toNat:Int) == 95)=true:=by simp;omega
         go_wp2
         go_ret
         exact ⟨by rw [HE.out];rfl,rfl⟩
      | true=>
       have hk0:0<k:=by simpa using h0
       have hok:okAt k c=true:=by
        simp [okAt,letB,digB];omega
       have e0:((k:Int) == 0)=false:=by simp;omega
       have hnx:nmGo 0 (s.data.toList.take (k+1))=true:=by rw [nmGo_at HC.out,hn.out,hok];rfl
       have HX:=hd_ hnx;clear hnx hok h0;rcases hcl with h | h
       · have d57:decide ((c.toNat:Int)≤57)=true:=by simp;omega
         go_wp2
         go_round
         case rel=>exact ⟨k+1,by omega,by go_num,HX⟩
         case measure=>simp [intOf];omega
       · have e95:((c.toNat:Int) == 95)=true:=by simp;omega
         go_wp2
         go_round
         case rel=>exact ⟨k+1,by omega,by go_num,HX⟩
         case measure=>simp [intOf];omega
    · have hok:okAt k c=true:=by simp [okAt,letB,digB];omega
      have e95:((c.toNat:Int) == 95)=false:=by simp;omega
      have n95:((c.toNat:Int) != 95)=true:=by simp;omega
      have hnx:nmGo 0 (s.data.toList.take (k+1))=true:=by rw [nmGo_at HC.out,hn.out,hok];rfl
      have HX:=hd_ hnx;clear hnx hok;rcases hcl with h | h <;> cases d57:decide ((c.toNat:Int)≤57) <;> cases d90:decide ((c.toNat:Int)≤90) <;> cases d122:decide ((c.toNat:Int)≤122)
      all_goals try (exfalso;simp at d57 d90 d122;omega)
      all_goals
       go_wp2
       go_round
       case rel=>exact ⟨k+1,by omega,by go_num,HX⟩
       case measure=>simp [intOf];omega
  · obtain rfl:k=s.size:=by omega
    have hn2:nmGo 0 s.data.toList=true:=by have:=hn.out;rwa [List.take_of_length_le (by rw [HL.out];exact Nat.le_refl _)] at this
    have hie:s.data.toList.isEmpty=decide (s.size=0):=by
     rw [← HL.out]
     cases s.data.toList with
     | nil=>rfl
     | cons c cs=>simp
    have e:r=(decide (0<s.size) && decide (s.size≤24)):=by
     rw [HR.out];unfold nmB;rw [hn2,Bool.true_and,HL.out,hie]
     have hz:(!decide (s.size=0))=decide (0<s.size):=by
      by_cases h:s.size=0
      · rw [decide_eq_true h,decide_eq_false (by omega)];rfl
      · rw [decide_eq_false h,decide_eq_true (by omega)];rfl
     rw [hz]
    have HE:=hd_ e;clear e hie hn2 hn HR;by_cases h0:0<s.size
    · have e0:decide (0<(s.size:Int))=true:=decide_eq_true (by omega)
      by_cases h24:s.size≤24
      · have e24:decide ((s.size:Int)≤24)=true:=decide_eq_true (by omega)
        have hr:r=true:=by rw [HE.out,decide_eq_true h0,decide_eq_true h24];rfl
        have HRR:=hd_ hr;clear hr;go_wp2
        go_ret
        exact ⟨by rw [HRR.out];first | done | rfl | simp [e24],rfl⟩
      · have e24:decide ((s.size:Int)≤24)=false:=decide_eq_false (by omega)
        have hr:r=false:=by rw [HE.out,decide_eq_true h0,decide_eq_false h24];rfl
        have HRR:=hd_ hr;clear hr;go_wp2
        go_ret
        exact ⟨by rw [HRR.out];first | done | rfl | simp [e24],rfl⟩
    · have e0:decide (0<(s.size:Int))=false:=decide_eq_false (by omega)
      have hr:r=false:=by rw [HE.out,decide_eq_false h0];rfl
      have HRR:=hd_ hr;clear hr;go_wp2
      go_ret
      exact ⟨by rw [HRR.out];first | done | rfl,rfl⟩
theorem rDay_any (w:World) (n:Int):Calls Tryz.prog 55 #[.int .i64 n] w fun e w'=>e = .returned (.bool (isB n))∧w=w':=by
 by_cases h0:0≤n
 · by_cases h1:n≤1000000
   · rw [(isB_iff n).2 ⟨h0,h1⟩]
     go_enter Tryz.func55,Tryz.ntmps55
     go_wp2
     go_ret
     exact ⟨rfl,rfl⟩
   · rw [isB_no (.inr (by omega))]
     go_enter Tryz.func55,Tryz.ntmps55
     go_wp2
     go_ret
     exact ⟨rfl,rfl⟩
 · rw [isB_no (.inl (by omega))]
   go_enter Tryz.func55,Tryz.ntmps55
   go_wp2
   go_ret
   exact ⟨rfl,rfl⟩
theorem rright_any (w:World) (B:Nat) (A:Option Addr) (l:List Rt) (c:Nat) (h:RtsAt w B A l) (hl:l.length≤4611686018427387904) (n:ByteArray) (q:Bool) (hq:q=true↔n∈l.map (·.1)) :
 Calls Tryz.prog 123 #[.slice A l.length c,.string n] w fun e w'=>e = .returned (.bool q)∧w=w':=by
 have HH:=hd_ h;have HQ:=hd_ hq;obtain ⟨N,hN⟩:∃ N,l.length=N:=⟨_,rfl⟩;have HN:=hd_ hN;rw [hN] at hl ⊢;clear h hq hN;go_enter Tryz.func123,Tryz.ntmps123
 go_wp2_with fail
 go_loop [5] (fun i=>∃ k:Nat,k≤N∧i = .int .i64 (k:Int)∧Hid (n∉(l.take k).map (·.1))) (fun i=>N - (intOf i).toNat)
 case atStart=>exact ⟨0,Nat.zero_le _,rfl,hd_ (by simp)⟩
 case round=>
  obtain ⟨k,hk,rfl,HT⟩:=hrel;by_cases hlt:k<N
  · obtain ⟨x,hx⟩:∃ x,l[k]? = some x:=⟨_,List.getElem?_eq_getElem (by rw [HN.out];exact hlt)⟩
    obtain ⟨g,off,hA,hg,c0,c1⟩:=HH.out k x hx;subst hA;have ib0:(0:Int)≤(k:Int):=by omega
    have ib1:(k:Int)<(N:Int):=by omega
    have HX:=hd_ hx;clear hx;obtain ⟨a,d⟩:=x;simp only at c0 c1;by_cases hxn:a=n
    · obtain rfl:q=true:=HQ.out.2 (List.mem_map.2 ⟨(a,d),List.mem_of_getElem? HX.out,hxn⟩)
      subst hxn;clear c1;go_wp2_with fail
      go_ret
      exact ⟨rfl,rfl⟩
    · have HT2:Hid (n∉(l.take (k+1)).map (·.1)):=hd_ (by
       rw [take_snoc' HX.out,List.map_append,List.mem_append];rintro (h | h)
       · exact HT.out h
       · simp at h;exact hxn h.symm)
      have e3:=str_no hxn;clear hxn c1;go_wp2_with fail
      go_round
      case rel=>exact ⟨k+1,by omega,by go_num,HT2⟩
      case measure=>simp [intOf];omega
  · obtain rfl:k=N:=by omega
    have hno:n∉l.map (·.1):=by
     have:=HT.out;rwa [List.take_of_length_le (by rw [HN.out];exact Nat.le_refl _)] at this
    obtain rfl:q=false:=by
     cases q with
     | false=>rfl
     | true=>exact absurd (HQ.out.1 rfl) hno
    clear hno;go_wp2
    go_ret
    exact ⟨rfl,rfl⟩
theorem rin_any (w:World) (B:Nat) (A:Option Addr) (l:List ByteArray) (c:Nat) (h:BtsAt w B A l) (hl:l.length≤4611686018427387904) (n:ByteArray) (q:Bool) (hq:q=true↔n∈l) :
 Calls Tryz.prog 130 #[.slice A l.length c,.string n] w fun e w'=>e = .returned (.bool q)∧w=w':=by
 have HH:=hd_ h;have HQ:=hd_ hq;obtain ⟨N,hN⟩:∃ N,l.length=N:=⟨_,rfl⟩;have HN:=hd_ hN;rw [hN] at hl ⊢;clear h hq hN;go_enter Tryz.func130,Tryz.ntmps130
 go_wp2_with fail
 go_loop [5] (fun i=>∃ k:Nat,k≤N∧i = .int .i64 (k:Int)∧Hid (n∉l.take k)) (fun i=>N - (intOf i).toNat)
 case atStart=>exact ⟨0,Nat.zero_le _,rfl,hd_ (by simp)⟩
 case round=>
  obtain ⟨k,hk,rfl,HT⟩:=hrel;by_cases hlt:k<N
  · obtain ⟨x,hx⟩:∃ x,l[k]? = some x:=⟨_,List.getElem?_eq_getElem (by rw [HN.out];exact hlt)⟩
    obtain ⟨g,off,hA,hg,c0⟩:=HH.out k x hx;subst hA;have ib0:(0:Int)≤(k:Int):=by omega
    have ib1:(k:Int)<(N:Int):=by omega
    have HX:=hd_ hx;clear hx;by_cases hxn:x=n
    · obtain rfl:q=true:=HQ.out.2 (by rw [← hxn];exact List.mem_of_getElem? HX.out)
      subst hxn;go_wp2_with fail
      go_ret
      exact ⟨rfl,rfl⟩
    · have HT2:Hid (n∉l.take (k+1)):=hd_ (by
       rw [take_snoc' HX.out,List.mem_append];rintro (h | h)
       · exact HT.out h
       · simp at h;exact hxn h.symm)
      have e3:=str_no hxn;clear hxn;go_wp2_with fail
      go_round
      case rel=>exact ⟨k+1,by omega,by go_num,HT2⟩
      case measure=>simp [intOf];omega
  · obtain rfl:k=N:=by omega
    have hno:n∉l:=by
     have:=HT.out;rwa [List.take_of_length_le (by rw [HN.out];exact Nat.le_refl _)] at this
    obtain rfl:q=false:=by
     cases q with
     | false=>rfl
     | true=>exact absurd (HQ.out.1 rfl) hno
    clear hno;go_wp2
    go_ret
    exact ⟨rfl,rfl⟩
end Go.Proofs.YtknchlpcpgflkaaGreatDoor

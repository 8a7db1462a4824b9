import Derived.Test.YtknchlpcpgflkaaGreatDoorKGAY
import Derived.Test.YtknchlpcpgflkaaGreatDoorKGAU
import Derived.Test.YtknchlpcpgflkaaGreatDoorKGAO
import Derived.Test.YtknchlpcpgflkaaGreatDoorKGAV
import Derived.Test.YtknchlpcpgflkaaGreatDoorKGAN
set_option maxRecDepth 100000
set_option maxHeartbeats 16000000
namespace Go.Proofs.YtknchlpcpgflkaaGreatDoor
open Go.RowKit Go.Shelf
def nmL (l:List S2):List (Value×Value):=l.map fun r=>(.string r.1,.string r.2)
theorem nmL_G (l:List S2):∀ p∈nmL l,StrV p.1:=by
 intro p hp;obtain ⟨k,-,rfl⟩:=List.mem_map.1 hp;exact ⟨_,rfl⟩
theorem nmL_next {l:List S2} {k:Nat} {x:S2} (h:l[k]? = some x):nmL (l.take (k+1))=nmL (l.take k)++[((.string x.1:Value),(.string x.2:Value))]:=by
 unfold nmL;rw [take_snoc' h,List.map_append];rfl
theorem nmL_ne {l:List S2} {x:ByteArray} (h:x∉l.map (·.1)):∀ p∈nmL l,p.1≠.string x:=by
 intro p hp he;obtain ⟨k,hk,rfl⟩:=List.mem_map.1 hp;exact h (List.mem_map.2 ⟨k,hk,Value.string.inj he⟩)
theorem take_new {l:List S2} (hd:(l.map (·.1)).Nodup) {k:Nat} {x:S2} (h:l[k]? = some x):x.1∉(l.take k).map (·.1):=by
 intro hm;obtain ⟨i,hi⟩:=List.getElem?_of_mem hm;rw [List.map_take,List.getElem?_take] at hi
 split at hi
 case isTrue hik=>
  have hj:(l.map (·.1))[k]? = some x.1:=by rw [List.getElem?_map,h];rfl
  have:=(List.getElem?_inj (List.getElem?_eq_some_iff.1 hj).1 hd).1 (hj.trans hi.symm);omega
 case isFalse=>cases hi
theorem gnamed_any (w:World) (B:Nat) (g:Mg) (x:MgX) (h:PrsAt w B x.a2 g.rs) (hB:B≤w.heap.size) (hl:g.rs.length≤4611686018427387904) (hd:(g.rs.map (·.1)).Nodup) :
 Calls Tryz.prog 37 #[.agg (mgC g x)] w fun e w'=>∃ b,e = .returned (.map (some b))∧w.heap.size≤b∧MapV w' b (nmL g.rs)∧Below w.heap.size w w':=by
 obtain ⟨fr,tn,st,rs,ts⟩:=g;obtain ⟨a1,c1,a2,c2,a3,c3,tv⟩:=x;simp only at *;show Calls Tryz.prog 37 #[.agg #[.string fr,.string tn,.slice a1 st.length c1,.slice a2 rs.length c2,.slice a3 ts.length c3]] w _;have hb:=below_self_alloc w (.cells #[.string fr,.string tn,.slice a1 st.length c1,.slice a2 rs.length c2,.slice a3 ts.length c3] 30);have kx:=Blk.new w 30 #[.string fr,.string tn,.slice a1 st.length c1,.slice a2 rs.length c2,.slice a3 ts.length c3];have HH:=hd_ h;have HD:=hd_ hd;have hmm := @run_makeMap Tryz.prog;obtain ⟨t0,t1,t2⟩:=kx.all;have hm0:=MapV.made (w.alloc (.cells #[.string fr,.string tn,.slice a1 st.length c1,.slice a2 rs.length c2,.slice a3 ts.length c3] 30));have hb0:=hb.alloc hb.size (.map #[] 0);have hk0:=kx.alloc (.map #[] 0);have hms:(w.alloc (.cells #[.string fr,.string tn,.slice a1 st.length c1,.slice a2 rs.length c2,.slice a3 ts.length c3] 30)).heap.size=w.heap.size+1:=by simp
 rw [hms] at hm0;have HM0:=hd_ hm0;clear h hd kx hms hm0;go_enter Tryz.func37,Tryz.ntmps37
 go_wp2_with fail
 go_loopw [10] (fun i wr=>∃ k:Nat,k≤rs.length∧i = .int .i64 (k:Int)∧Hid (MapV wr (w.heap.size+1) (nmL (rs.take k)))∧Below w.heap.size w wr) (fun i _=>rs.length - (intOf i).toNat)
 case atStart=>exact ⟨0,Nat.zero_le _,rfl,HM0,hb0⟩
 case round=>
  clear hb0 HM0 hmm hb t0 t1 t2;obtain ⟨k,hk,rfl,HM,hb⟩:=hrel;by_cases hlt:k<rs.length
  · obtain ⟨x,hx⟩:∃ x,rs[k]? = some x:=⟨_,List.getElem?_eq_getElem hlt⟩
    obtain ⟨g,off,hA,hg,c0,c1⟩:=(HH.out.below (hb.mono hB)) k x hx;subst hA;have HX:=hd_ hx;have HN:=hd_ (nmL_ne (take_new HD.out hx));clear hx;have b0:Below w.heap.size w (wr.alloc (.cells #[.string x.1,.string x.2] 75)):=hb.alloc hb.size _;have kx:=Blk.new wr 75 #[.string x.1,.string x.2];obtain ⟨t0,t1,t2⟩:=kx.all;have M0:=hd_ (HM.out.alloc (.cells #[.string x.1,.string x.2] 75));obtain ⟨w3,hu,hm3,hg3⟩:=M0.out.upd_none kysStr Tryz.underlying83 (nmL_G _) (x:=.string x.1) ⟨_,rfl⟩ HN.out (.string x.2);have hb3:=b0.grown hg3 b0.size (fun j e=>by injection e with e;omega);have HM3:=hd_ hm3;clear hm3 hg3 M0 HM hb b0 kx;go_wp2
    go_roundw
    case rel=>exact ⟨k+1,by omega,by go_num,hd_ (by rw [nmL_next HX.out];exact HM3.out),hb3⟩
    case measure=>simp [intOf];omega
  · obtain rfl:k=rs.length:=by omega
    have hm:=HM.out;rw [List.take_length] at hm;have HM2:=hd_ hm;clear hm HM HH HD;go_wp2
    go_ret
    exact ⟨_,rfl,by omega,HM2.out,hb⟩
theorem grenamed_any (w:World) (b:Nat) (rs:List S2) (h:MapV w b (nmL rs)) (n:ByteArray) :
 Calls Tryz.prog 38 #[.map (some b),.string n] w fun e w'=>e = .returned (.string (namedL rs n))∧Below w.heap.size w w':=by
 have hz:=fun W=>Tryz.zeroValue9 W
 cases hf:rs.find? fun r=>decide (r.1=n) with
 | some r=>
  have he:r.1=n:=of_decide_eq_true (List.find?_some (p:=fun r:S2=>decide (r.1=n)) hf);have hm:((.string n:Value),(.string r.2:Value))∈nmL rs:=List.mem_map.2 ⟨r,List.mem_of_find?_eq_some hf,by rw [he]⟩;have lk:=h.look_some kysStr Tryz.underlying83 (nmL_G _) hm true;rw [namedL_some hf];rw [if_pos rfl] at lk;clear h hf he hm hz;go_enter Tryz.func38,Tryz.ntmps38
  go_wp2
  go_ret
  exact ⟨rfl,Below.refl _ _⟩
 | none=>
  have lk:=h.look_none kysStr Tryz.underlying83 (nmL_G _) (x:=.string n) ⟨_,rfl⟩ (nmL_ne (find_none.1 hf)) (hz w) true;rw [namedL_none hf];rw [if_pos rfl] at lk;clear h hf hz;go_enter Tryz.func38,Tryz.ntmps38
  go_wp2
  go_ret
  exact ⟨rfl,Below.refl _ _⟩
theorem putR_in {out:List Rt} {n:ByteArray} {s:Int} {i:Nat} {t:Rt} (hd:(out.map (·.1)).Nodup) (h:out[i]? = some t) (hn:t.1=n):putR out n s=out.set i (t.1,min t.2 s):=by
 subst hn;unfold putR;rw [if_pos (List.mem_map.2 ⟨t,List.mem_of_getElem? h,rfl⟩)];apply List.ext_getElem?;intro j;rw [List.getElem?_map,List.getElem?_set];obtain ⟨hi,-⟩:=List.getElem?_eq_some_iff.1 h;by_cases hij:i=j
 · subst hij
   rw [if_pos rfl,if_pos hi,h,Option.map_some,if_pos rfl]
 · rw [if_neg hij]
   cases hj:out[j]? with
   | none=>rfl
   | some y=>
    rw [Option.map_some,if_neg];intro he;have h1:(out.map (·.1))[i]? = some t.1:=by rw [List.getElem?_map,h];rfl
    have h2:(out.map (·.1))[j]? = some t.1:=by rw [List.getElem?_map,hj,Option.map_some,he]
    exact hij ((List.getElem?_inj (List.getElem?_eq_some_iff.1 h1).1 hd).1 (h1.trans h2.symm))
theorem putR_out {out:List Rt} {n:ByteArray} {s:Int} (h:n∉out.map (·.1)):putR out n s=out++[(n,s)]:=by unfold putR;rw [if_neg h]
theorem setN {out:List Rt} {i:Nat} {t:Rt} {v:Int} (h:out[i]? = some t):(out.set i (t.1,v)).map (·.1)=out.map (·.1):=by
 apply List.ext_getElem?;intro j;rw [List.map_set,List.getElem?_set];obtain ⟨hi,hg⟩:=List.getElem?_eq_some_iff.1 h;by_cases hij:i=j
 · subst hij
   rw [if_pos rfl,List.length_map,if_pos hi,List.getElem?_map,h];rfl
 · rw [if_neg hij]
theorem named_or (rs:List S2) (n:ByteArray):namedL rs n=n∨∃ s∈rs,namedL rs n=s.2:=by
 cases hf:rs.find? fun r=>decide (r.1=n) with
 | none=>exact .inl (namedL_none hf)
 | some r=>exact .inr ⟨r,List.mem_of_find?_eq_some hf,namedL_some hf⟩
def atN (ns:List ByteArray):List (Value×Value):=ns.mapIdx fun i n=>(.string n,.int .i64 (i:Int))
theorem atN_snoc (ns:List ByteArray) (n:ByteArray):atN (ns++[n])=atN ns++[(.string n,.int .i64 (ns.length:Int))]:=by unfold atN;rw [List.mapIdx_concat]
theorem atN_iff {ns:List ByteArray} {p:Value×Value} : p∈atN ns↔∃ (i:Nat) (n:ByteArray),ns[i]? = some n∧p=(.string n,.int .i64 (i:Int)):=by
 unfold atN;rw [List.mem_iff_getElem?];constructor
 · rintro ⟨i,hi⟩
   rw [List.getElem?_mapIdx] at hi
   cases h:ns[i]? with
   | none=>rw [h] at hi;cases hi
   | some n=>rw [h] at hi;injection hi with hi;exact ⟨i,n,h,hi.symm⟩
 · rintro ⟨i,n,h,rfl⟩
   exact ⟨i,by rw [List.getElem?_mapIdx,h];rfl⟩
theorem atN_G (ns:List ByteArray):∀ p∈atN ns,StrV p.1:=by
 intro p hp;obtain ⟨i,n,-,rfl⟩:=atN_iff.1 hp;exact ⟨n,rfl⟩
theorem atN_at {ns:List ByteArray} {i:Nat} {n:ByteArray} (h:ns[i]? = some n):((.string n:Value),(Value.int .i64 (i:Int)))∈atN ns:=atN_iff.2 ⟨i,n,h,rfl⟩
theorem atN_ne {ns:List ByteArray} {n:ByteArray} (h:n∉ns):∀ p∈atN ns,p.1≠.string n:=by
 intro p hp he;obtain ⟨i,k,hk,rfl⟩:=atN_iff.1 hp;injection he with he;exact h (he▸List.mem_of_getElem? hk)
theorem termOf_found {ts:List Lm} {n:ByteArray} {k:Nat} {x:Lm} (h:ts[k]? = some x) (hx:x.id=n) (hn:∀ r∈ts.take k,¬ r.id=n):termOf ts n=some x:=by
 obtain ⟨hk,hx2⟩:=List.getElem?_eq_some_iff.1 h;have e:ts=ts.take k++x::ts.drop (k+1):=by rw [← hx2,List.getElem_cons_drop hk,List.take_append_drop]
 unfold termOf;rw [e,List.find?_append,List.find?_eq_none.2 (fun r hr=>by simpa using hn r hr),Option.none_or,List.find?_cons,decide_eq_true hx]
theorem termOf_no {ts:List Lm} {n:ByteArray} (hn:∀ r∈ts,¬ r.id=n):termOf ts n=none:=List.find?_eq_none.2 fun r hr=>by simpa using hn r hr
theorem chgE_at {ts:List Lm} {day:Int} {l:List Int} : ∀ {ls:List Lm} {k:Nat} {x:Lm},ls[k]? = some x→(∀ y∈ls.take k,(chgS ts day l y).2=0)→(chgS ts day l x).2≠0→chgE ts day l ls=(chgS ts day l x).2
 | [],k,x,h,_,_=>by simp at h
 | y::ls,0,x,h,_,h2=>by
  have h:y=x:=by simpa using h
  subst h;unfold chgE;rw [if_pos h2]
 | y::ls,k+1,x,h,h1,h2=>by
  unfold chgE;rw [if_neg (by rw [h1 y (by simp)];simp)];exact chgE_at (by simpa using h) (fun z hz=>h1 z (by simp [hz])) h2
theorem chg_keep {ts:List Lm} {day:Int} {l:List Int} {x:Lm} (h:(chgS ts day l x).2=0):(chgS ts day l x).1.id=x.id∧(chgS ts day l x).1.S=x.S:=by
 unfold chgS at h ⊢
 cases ht:termOf ts x.id with
 | none=>exact ⟨rfl,rfl⟩
 | some t=>
  rw [ht] at h;simp only at h ⊢;rcases change_cases x day t.n t.u t.f l with ⟨f,hf,he⟩ | ⟨-,-,he⟩ | ⟨-,-,-,-,-,-,N,U,F,he,-⟩
  · rw [he] at h;exact absurd h hf
  · rw [he];exact ⟨rfl,rfl⟩
  · rw [he];exact ⟨rfl,rfl⟩
def LimK (ts:List Lm) (day:Int) (l:List Int) (lv:List LmV) (k:Nat) (lk:List LmV):Prop:=
 lk.map (·.1)=(lv.take k).map (fun x=>(chgS ts day l x.1).1)++(lv.drop k).map (·.1)
theorem LimK.zero (ts:List Lm) (day:Int) (l:List Int) (lv:List LmV):LimK ts day l lv 0 lv:=rfl
theorem LimK.same {ts:List Lm} {day:Int} {l:List Int} {lv lk:List LmV} {k:Nat} {x:LmV} (h:LimK ts day l lv k lk) (hx:lv[k]? = some x) (he:(chgS ts day l x.1).1=x.1):LimK ts day l lv (k+1) lk:=by
 obtain ⟨hk,hg⟩:=List.getElem?_eq_some_iff.1 hx;unfold LimK at *;rw [h,take_snoc' hx,List.drop_eq_getElem_cons hk,hg,List.map_append,List.map_cons,List.map_cons,List.map_nil,he,List.append_assoc];rfl
theorem LimK.step {ts:List Lm} {day:Int} {l:List Int} {lv lk:List LmV} {k:Nat} {x y:LmV} (h:LimK ts day l lv k lk) (hx:lv[k]? = some x) (he:(chgS ts day l x.1).1=y.1):LimK ts day l lv (k+1) (lk.set k y):=by
 obtain ⟨hk,hg⟩:=List.getElem?_eq_some_iff.1 hx;unfold LimK at *;have hlen:((lv.take k).map (fun x=>(chgS ts day l x.1).1)).length=k:=by rw [List.length_map,List.length_take];omega
 rw [List.map_set,h,take_snoc' hx,List.drop_eq_getElem_cons hk,hg,List.map_append,List.map_cons,List.map_cons,List.map_nil,he,List.set_append,if_neg (by rw [hlen];omega),hlen,Nat.sub_self,List.append_assoc];rfl
theorem LimK.done {ts:List Lm} {day:Int} {l:List Int} {lv lk:List LmV} (h:LimK ts day l lv lv.length lk):lk.map (·.1)=chgL ts day l (lv.map (·.1)):=by
 unfold LimK at h;rw [h,List.take_length,List.drop_length,List.map_nil,List.append_nil];unfold chgL;rw [List.map_map];rfl
def IntV (v:Value):Prop:=∃ n:Int,v = .int .i64 n
theorem checkInt (w:World) (em:Bool) (n:Int):(Instr.checkKey em 10000 3 (.int .i64 n)).run Tryz.prog w = .ok () w:=by
 rw [show (10000:Nat)=9999+1 from rfl];unfold Instr.checkKey;simp [run_underlying Tryz.underlying3]
theorem nowInt (s:Int):∀ (es:List MapEntry) (i:Nat),(∀ e∈es,IntV e.key) →
 (Instr.findNow (.int .i64) (.int .i64 s) es i=some none∧∀ e∈es,e.key≠.int .i64 s)∨∃ (j:Nat) (e:MapEntry),Instr.findNow (.int .i64) (.int .i64 s) es i=some (some (i+j,e.val))∧es[j]? = some e∧e.key = .int .i64 s
 | [],i,_=>.inl ⟨rfl,by simp⟩
 | x::es,i,h=>by
  obtain ⟨t,ht⟩:=h x List.mem_cons_self;by_cases hst:s=t
  · refine .inr ⟨0,x,?_,rfl,by rw [ht,hst]⟩
    unfold Instr.findNow;rw [ht];simp [Instr.sameNow,hst]
  · have hne:x.key≠.int .i64 s:=fun e=>hst (by rw [ht] at e;injection e with _ e;exact e.symm)
    have hstep:Instr.findNow (.int .i64) (.int .i64 s) (x::es) i=Instr.findNow (.int .i64) (.int .i64 s) es (i+1):=by
     rw [Instr.findNow,ht];have hb:(s == t)=false:=beq_eq_false_iff_ne.2 hst;simp [Instr.sameNow,hb]
    rw [hstep];rcases nowInt s es (i+1) (fun e he=>h e (List.mem_cons_of_mem _ he)) with ⟨h2,h3⟩ | ⟨j,e,h2,h3,h4⟩
    · refine .inl ⟨h2,fun e he=>?_⟩
      rcases List.mem_cons.1 he with rfl | he
      · exact hne
      · exact h3 e he
    · exact .inr ⟨j+1,e,by rw [h2,show i+1+j=i+(j+1) by omega],by simpa using h3,h4⟩
theorem askInt (w:World) (s:Int) (es:List MapEntry) (h:∀ e∈es,IntV e.key) :
 ((Instr.findKey 3 (.int .i64 s) es).run Tryz.prog w = .ok none w∧∀ e∈es,e.key≠.int .i64 s)∨∃ (j:Nat) (e:MapEntry),(Instr.findKey 3 (.int .i64 s) es).run Tryz.prog w = .ok (some (j,e.val)) w∧es[j]? = some e∧e.key = .int .i64 s:=by
 have hu:=run_underlying Tryz.underlying3 w;rcases nowInt s es 0 h with ⟨h2,h3⟩ | ⟨j,e,h2,h3,h4⟩
 · exact .inl ⟨by simp [Instr.findKey,hu,h2],h3⟩
 · exact .inr ⟨j,e,by simp [Instr.findKey,hu,h2],h3,h4⟩
theorem kysInt:Kys Tryz.prog 3 IntV where
 check w em v hv:=by obtain ⟨s,rfl⟩:=hv;exact checkInt w em s
 find w x hx es hes:=by
  obtain ⟨s,rfl⟩:=hx;exact askInt w s es hes
 stays w v hv:=by
  obtain ⟨s,rfl⟩:=hv
  have:Instr.sameBits 10000 (.int .i64 s) (.int .i64 s)=true:=by
   rw [show (10000:Nat)=9999+1 from rfl];simp [Instr.sameBits]
  simp [Instr.keyThatStays,this]
def kInts (l:List Int):List (Value×Value):=l.map fun k=>(.int .i64 k,.bool true)
theorem kInts_G (l:List Int):∀ p∈kInts l,IntV p.1:=by
 intro p hp;obtain ⟨k,-,rfl⟩:=List.mem_map.1 hp;exact ⟨k,rfl⟩
theorem kInts_mem {l:List Int} {x:Int} (h:x∈l):((.int .i64 x:Value),Value.bool true)∈kInts l:=List.mem_map.2 ⟨x,h,rfl⟩
theorem kInts_ne {l:List Int} {x:Int} (h:x∉l):∀ p∈kInts l,p.1≠.int .i64 x:=by
 intro p hp he;obtain ⟨k,hk,rfl⟩:=List.mem_map.1 hp;injection he with _ he;exact h (he▸hk)
theorem kInts_snoc (l:List Int) (x:Int):kInts (l++[x])=kInts l++[((.int .i64 x:Value),Value.bool true)]:=by unfold kInts;rw [List.map_append];rfl
theorem kInts_look {w:World} {b:Nat} {l:List Int} (h:MapV w b (kInts l)) (x:Int):(Instr.lookup 98 (.map (some b)) (.int .i64 x) false).run Tryz.prog w = .ok (.bool (decide (x∈l))) w:=by
 by_cases hx:x∈l
 · rw [decide_eq_true hx]
   exact h.look_some kysInt Tryz.underlying98 (kInts_G l) (kInts_mem hx) false
 · rw [decide_eq_false hx]
   exact h.look_none kysInt Tryz.underlying98 (kInts_G l) ⟨x,rfl⟩ (kInts_ne hx) (Tryz.zeroValue4 w) false
theorem kInts_up {w:World} {b:Nat} {l:List Int} (h:MapV w b (kInts l)) {x:Int} (hx:x∉l) :
 ∃ w',(Instr.mapUpdate 98 (.map (some b)) (.int .i64 x) (.bool true)).run Tryz.prog w = .ok () w'∧MapV w' b (kInts (l++[x]))∧w.grownBy w' (some b):=by
 rw [kInts_snoc];exact h.upd_none kysInt Tryz.underlying98 (kInts_G l) ⟨x,rfl⟩ (kInts_ne hx) (.bool true)
theorem gfrom_any (w:World) (bs:Nat) (s:Int) (h:w.cell? ⟨bs,0,none⟩=some (.int .i64 s)) (hlt:bs<w.heap.size) (m:I2) :
 Calls Tryz.prog 98 #[.agg #[.int .i64 m.1,.int .i64 m.2],.pointer (some ⟨bs,0,none⟩)] w fun e w'=>e = .returned (.bool (decide (m.1=s)))∧Below w.heap.size w w':=by
 have hb:=below_self_alloc w (.cells #[.int .i64 m.1,.int .i64 m.2] 76);obtain ⟨t0,t1,t2⟩:=(Blk.new w 76 #[.int .i64 m.1,.int .i64 m.2]).all;have h1:(w.alloc (.cells #[.int .i64 m.1,.int .i64 m.2] 76)).cell? ⟨bs,0,none⟩=some (.int .i64 s):=(hb.cell (p:=⟨bs,0,none⟩) hlt).trans h;have hq:(m.1 == s)=decide (m.1=s):=by rw [Bool.eq_iff_iff,beq_iff_eq,decide_eq_true_eq]
 have HQ:=hd_ hq;obtain ⟨q,hq'⟩:∃ q,decide (m.1=s)=q:=⟨_,rfl⟩;rw [hq'] at HQ ⊢;clear hq hq' h;go_enter Tryz.func98,Tryz.ntmps98
 go_wp2
 go_ret
 exact ⟨congrArg (fun b=>Ending.returned (.bool b)) HQ.out,hb⟩
theorem MapV.only {w w':World} {b:Nat} {L:List (Value×Value)} {F:Foot} (h:MapV w b L) (hO:Only F w w') (hF:¬ F b):MapV w' b L:=h.of_block (hO.block b h.lt hF)
structure BkAt (w:World) (B b bm bp bc:Nat) (p:Pc) (y:PcX):Prop where
 cm:Blk w bm 98 #[.map (some b)]
 cp:Blk w bp 34 (pcC p y)
 cf:Blk w bc 137 #[.func (.func 96) #[] #[.pointer (some ⟨bm,0,none⟩),.pointer (some ⟨bp,0,none⟩),.pointer (some ⟨bc,0,none⟩)]]
 ms:StopsAt w B y.a2 p.ms
 hB:B≤w.heap.size
 ne:B≤b∧bm≠b∧bp≠b∧bc≠b
theorem BkAt.only {w w':World} {B b bm bp bc:Nat} {p:Pc} {y:PcX} (h:BkAt w B b bm bp bc p y) (hO:Only (fun i=>i=b) w w'):BkAt w' B b bm bp bc p y:=
 ⟨hO.blk h.cm h.ne.2.1,hO.blk h.cp h.ne.2.2.1,hO.blk h.cf h.ne.2.2.2,h.ms.below (hO.below h.hB fun i hi=>by have:=h.ne.1;omega),Nat.le_trans h.hB hO.size,h.ne⟩
def BackPost (w:World) (b:Nat) (ms:List I2) (s:Int) (V:List Int) (e:Ending) (w':World):Prop:=
 e = .returned (.tuple #[])∧∃ X,Sought ms s V X∧MapV w' b (kInts (V++X))∧Only (fun i=>i=b) w w'
theorem back_any (B b bm bp bc:Nat) (p:Pc) (y:PcX) (hin:MvIn p.ss.length p.ms) (hl:p.ms.length≤1000000):∀ (d:Nat) (w:World) (V:List Int) (s:Int),BkAt w B b bm bp bc p y→MapV w b (kInts V)→V.Nodup→(∀ x∈V,0≤x∧x<(p.ss.length:Int))→0≤s∧s<(p.ss.length:Int)→p.ss.length<V.length+d →
 Calls Tryz.prog 96 #[.int .i64 s,.pointer (some ⟨bm,0,none⟩),.pointer (some ⟨bp,0,none⟩),.pointer (some ⟨bc,0,none⟩)] w (BackPost w b p.ms s V)
 | 0,w,V,s,_,_,hnd,hVin,_,hlt=>by have:=few_below _ V hnd hVin;omega
 | d+1,w,V,s,hk,hm,hnd,hVin,hs,hlt=>by
  have ih:=back_any B b bm bp bc p y hin hl d;have lk:=kInts_look hm s;obtain ⟨t0,t1,t2⟩:=hk.cm.all;by_cases hsV:s∈V
  · rw [decide_eq_true hsV] at lk
    have HF:=hd_ (⟨rfl,[],Sought.none hnd hsV,by rw [List.append_nil];exact hm,Only.refl _ _⟩:BackPost w b p.ms s V (.returned (.tuple #[])) w);clear hm hk hnd hVin ih hsV;go_enter Tryz.func96,Tryz.ntmps96
    go_wp2
    exact bodyPost_ret (results_none rfl _ _ _) rfl ⟨rfl,HF.out.2⟩
  · rw [decide_eq_false hsV] at lk
    obtain ⟨w1,hu,hm1,hg1⟩:=kInts_up hm hsV;have hO1:Only (fun i=>i=b) w w1:=(Only.of_grown hg1).mono fun i hi=>by injection hi with hi;exact hi.symm
    have K1:=hd_ (hk.only hO1);have K0:=hd_ hk;have M1:=hd_ hm1;have O1:=hd_ hO1;have S1:=hd_ (Seen.start (ms:=p.ms) hnd hsV);have HIH:=hd_ ih;have HVI:=hd_ hVin;have HSI:=hd_ hs;clear hm hk hnd hVin ih hsV hm1 hg1 hO1;obtain ⟨u0,u1,u2⟩:=K1.out.cp.all;obtain ⟨pn,ss,ms⟩:=p;obtain ⟨b1,e1,b2,e2⟩:=y;simp only [pcC] at *;go_enter Tryz.func96,Tryz.ntmps96
    go_wp2_with fail
    have HIN:=hd_ hin;clear hin t0 t1 t2 u0 u1 u2 lk hu;go_loopw [15] (fun i wr=>∃ k:Nat,k≤ms.length∧i = .int .i64 (k:Int)∧∃ X,Hid (Seen ms s V X)∧Hid (s∈X)∧Hid (∀ m∈ms.take k,m.2=s→m.1∈V++X)∧Hid (MapV wr b (kInts (V++X)))∧Hid (Only (fun i=>i=b) w wr)) (fun i _=>ms.length - (intOf i).toNat)
    case atStart=>exact ⟨0,Nat.zero_le _,rfl,[s],S1,hd_ (by simp),hd_ (by simp),M1,O1⟩
    case round=>
     obtain ⟨k,hk,rfl,X,HS,HSX,HA,HM,HO⟩:=hrel;clear S1 M1 O1;by_cases hlt:k<ms.length
     · obtain ⟨m,hm⟩:∃ m,ms[k]? = some m:=⟨_,List.getElem?_eq_getElem hlt⟩
       have KR:=hd_ (K0.out.only HO.out);obtain ⟨g,off,hA,hg,c0,c1⟩:=KR.out.ms k m hm;have hA':b2=some ⟨g,off,none⟩:=hA;subst hA';have HMM:=hd_ (List.mem_of_getElem? hm);have HMK:=hd_ hm;clear hm hA;obtain ⟨x,t⟩:=m;simp only at c0 c1;have kx:=Blk.new wr 76 #[.int .i64 x,.int .i64 t];obtain ⟨t0,t1,t2⟩:=kx.all;have hOa:=HO.out.alloc (.cells #[.int .i64 x,.int .i64 t] 76);have hMa:=HM.out.alloc (.cells #[.int .i64 x,.int .i64 t] 76);have HOA:=hd_ hOa;have HMA:=hd_ hMa;clear hOa hMa kx;by_cases hts:t=s
       · have KA:=hd_ (K0.out.only HOA.out)
         obtain ⟨v0,v1,v2⟩:=KA.out.cf.all;subst hts
         have HC:=hd_ (HIH.out _ (V++X) x KA.out HMA.out HS.out.nd (fun z hz=>by
          rcases List.mem_append.1 hz with h1 | h1
          · exact HVI.out z h1
          · exact (HS.out.rch z h1).in_ HIN.out HSI.out) (HIN.out _ HMM.out).1 (by
          have h1:0<X.length:=List.length_pos_of_mem HSX.out;rw [List.length_append];omega))
         go_wp2_with fail
         refine HC.out.mono ?_;rintro e w3 ⟨rfl,Y,hY,hMY,hOY⟩;obtain ⟨n1,n2⟩:=HS.out.next HMM.out hY;have HS2:=hd_ n1;have HSX2:=hd_ (List.mem_append_left Y HSX.out)
         have HA2:Hid (∀ m∈ms.take (k+1),m.2=t→m.1∈V++(X++Y)):=hd_ (by
          rw [take_snoc' HMK.out];intro m hm he;rcases List.mem_append.1 hm with h1 | h1
          · have:=HA.out m h1 he
            rw [← List.append_assoc];exact List.mem_append_left _ this
          · have:m=(x,t):=by simpa using h1
            subst this;exact n2)
         have HM2:=hd_ (show MapV w3 b (kInts (V++(X++Y))) from by rw [← List.append_assoc];exact hMY);have HO2:=hd_ (HOA.out.trans hOY fun i hi=>.inl hi);clear hY hMY hOY n1 n2 v0 v1 v2 t0 t1 t2 HC KA KR;go_wp2
         go_roundw
         case rel=>exact ⟨k+1,by omega,by go_num,X++Y,HS2,HSX2,HA2,HM2,HO2⟩
         case measure=>simp [intOf];omega
       · have d0:(t == s)=false:=beq_eq_false_iff_ne.2 hts
         have HA2:Hid (∀ m∈ms.take (k+1),m.2=s→m.1∈V++X):=hd_ (by
          rw [take_snoc' HMK.out];intro m hm he;rcases List.mem_append.1 hm with h1 | h1
          · exact HA.out m h1 he
          · have:m=(x,t):=by simpa using h1
            subst this;exact absurd he hts)
         clear hts KR;go_wp2
         go_roundw
         case rel=>exact ⟨k+1,by omega,by go_num,X,HS,HSX,HA2,HMA,HOA⟩
         case measure=>simp [intOf];omega
     · obtain rfl:k=ms.length:=by omega
       have hA:=HA.out;rw [List.take_length] at hA;have HF:=hd_ (⟨rfl,X,HS.out.whole HSX.out hA,HM.out,HO.out⟩:BackPost w b ms s V (.returned (.tuple #[])) wr);clear hA;go_wp2
       exact bodyPost_end (results_none rfl _ _ _) rfl ⟨rfl,HF.out.2⟩
theorem MapV.ne_blk {w:World} {b g:Nat} {L:List (Value×Value)} {t:TypeId} {cs:Array Value} (h:MapV w b L) (k:Blk w g t cs):b≠g:=by
 rintro rfl;obtain ⟨es,cl,h1,-⟩:=h;unfold Blk at k;rw [h1] at k;simp at k
theorem MapV.ne_own {w:World} {b base size n:Nat} {e:TypeId} {v:Value} {xs:List Value} {L:List (Value×Value)} (h:MapV w b L) (o:w.ownsRow base e size v n xs):v.ownBlock≠some b:=by
 rcases o.2 with ⟨rfl,_⟩ | ⟨g,cap,cur,rfl,_,hh,_⟩
 · simp [Value.ownBlock]
 · intro he
   have:g=b:=by simpa [Value.ownBlock] using he
   subst this;exact h.ne_blk (g:=g) (t:=e) hh rfl
theorem own_own_ne {w:World} {base base' size size' n n':Nat} {e e':TypeId} {v v':Value} {xs xs':List Value} (o:w.ownsRow base e size v n xs) (o':w.ownsRow base' e' size' v' n' xs') (he:e≠e') {b:Nat} (hb:v.ownBlock=some b):v'.ownBlock≠some b:=by
 rcases o.2 with ⟨rfl,_⟩ | ⟨g,cap,cur,rfl,_,hh,_⟩
 · simp [Value.ownBlock] at hb
 · have:g=b:=by simpa [Value.ownBlock] using hb
   subst this;exact own_blk_ne o' (g:=g) (t:=e) hh fun h=>he h.symm
theorem row_some {w:World} {base size n c:Nat} {e:TypeId} {A:Option Addr} {xs:List Value} (h:w.ownsRow base e size (.slice A n c) n xs) (hn:0<n):∃ g,A=some ⟨g,0,none⟩∧base≤g∧g<w.heap.size:=by
 rcases h.2 with ⟨_,h0⟩ | ⟨g,cap,cur,hv,hb,hh,_⟩
 · omega
 · injection hv with hA h2 h3
   exact ⟨g,hA,hb,(Array.getElem?_eq_some_iff.1 hh).1⟩
theorem StopsAt.back {w W:World} {B:Nat} {A:Option Addr} {S:List Stp2} (h:StopsAt W B A S) (hb:Below B w W):StopsAt w B A S:=fun i s hi=>by
 obtain ⟨g,off,hA,hg,c0,c1⟩:=h i s hi;exact ⟨g,off,hA,hg,(hb.cell (p:=⟨g,off+i*2,none⟩) hg).symm.trans c0,(hb.cell (p:=⟨g,off+i*2+1,none⟩) hg).symm.trans c1⟩
def Z8:Array Value:=#[.string ⟨#[]⟩,.int .i64 0,.slice none 0 0,.string ⟨#[]⟩,.int .i64 0,.slice none 0 0,.slice none 0 0,.slice none 0 0]
theorem only_set3 {W:World} {g i:Nat} {v:Value} : Only (fun j=>j=g) W (W.setCell ⟨g,i,none⟩ v):=(Only.refl (fun j=>j=g) W).setCell (p:=⟨g,i,none⟩) (.inl rfl) v
def TwoS (W0:World) (bo:Nat) (c:Value→Value→Array Value) (V:World):Prop:=Only (fun i=>i=bo) W0 V∧∃ a b,Blk V bo 27 (c a b)
def TwoR (bo i j:Nat) (p q:Value) (w w':World):Prop:=(w.cell? ⟨bo,i,none⟩=some p→w'.cell? ⟨bo,i,none⟩=some p)∧(w.cell? ⟨bo,j,none⟩=some q→w'.cell? ⟨bo,j,none⟩=some q)
def cellV (bo i:Nat) (p:Value):Phi:=⟨none,fun _ _ w=>w.cell? ⟨bo,i,none⟩=some p⟩
structure ApS (w W:World) (Cm Cg:Array Value) (bo:Nat) (C:Array Value) (bn:Nat) (grs:List S2) (vl:Value) (K:Nat) (lv:List LmV):Prop where
 hb:Below w.heap.size w W
 km:Blk W w.heap.size 27 Cm
 kg:Blk W (w.heap.size+1) 30 Cg
 kz:Blk W (w.heap.size+1+1+1+1) 27 Z8
 ko:Blk W bo 27 C
 nm:MapV W bn (nmL grs)
 ol:W.ownsRow w.heap.size 44 5 vl K (lmCells lv)
 lo:w.heap.size+1+1+1+1<bo
 ln:w.heap.size≤bn
section
variable {w W W' : World} {Cm Cg C : Array Value} {bo bn K : Nat} {grs : List S2} {vl : Value} {lv : List LmV}
theorem ApS.below (h:ApS w W Cm Cg bo C bn grs vl K lv) (hb:Below W.heap.size W W'):ApS w W' Cm Cg bo C bn grs vl K lv:=
 ⟨h.hb.trans (hb.mono h.hb.size),h.km.below hb h.km.lt,h.kg.below hb h.kg.lt,h.kz.below hb h.kz.lt,h.ko.below hb h.ko.lt,h.nm.below hb h.nm.lt,(Only.of_below hb (fun _=>False)).owns h.ol (fun _ _ f=>f),h.lo,h.ln⟩
theorem ApS.only {F:Foot} (h:ApS w W Cm Cg bo C bn grs vl K lv) (ho:Only F W W') (h1:∀ i,F i→w.heap.size≤i) (hm:¬ F w.heap.size) (hg:¬ F (w.heap.size+1)) (hz:¬ F (w.heap.size+1+1+1+1)) (hbo:¬ F bo) (hbn:¬ F bn) (hl:∀ b,vl.ownBlock=some b→¬ F b):ApS w W' Cm Cg bo C bn grs vl K lv:=
 ⟨h.hb.trans (ho.below h.hb.size h1),ho.blk h.km hm,ho.blk h.kg hg,ho.blk h.kz hz,ho.blk h.ko hbo,h.nm.only ho hbn,ho.owns h.ol hl,h.lo,h.ln⟩
theorem ApS.row {n size:Nat} {e:TypeId} {v:Value} {xs:List Value} (h:ApS w W Cm Cg bo C bn grs vl K lv) (o:W.ownsRow w.heap.size e size v n xs) (e1:e≠27) (e2:e≠30) (e3:44≠e) (hg:W.grownBy W' v.ownBlock):ApS w W' Cm Cg bo C bn grs vl K lv:=
 h.only (Only.of_grown hg) (fun i hi=>(o.lt i hi).1) (own_blk_ne o h.km e1) (own_blk_ne o h.kg e2) (own_blk_ne o h.kz e1) (own_blk_ne o h.ko e1) (h.nm.ne_own o) (fun _ hb=>own_own_ne h.ol o e3 hb)
theorem ApS.map {ba:Nat} {L:List (Value×Value)} (h:ApS w W Cm Cg bo C bn grs vl K lv) (hM:MapV W ba L) (hlo:w.heap.size≤ba) (hne:ba≠bn) (hg:W.grownBy W' (some ba)):ApS w W' Cm Cg bo C bn grs vl K lv:=by
 have e:∀ i,some ba=some i→ba=i:=fun i h=>by injection h
 exact h.only (Only.of_grown hg) (fun i hi=>by have:=e i hi;omega) (fun f=>hM.ne_blk h.km (e _ f)) (fun f=>hM.ne_blk h.kg (e _ f)) (fun f=>hM.ne_blk h.kz (e _ f)) (fun f=>hM.ne_blk h.ko (e _ f)) (fun f=>hne (e _ f)) (fun b hb f=>hM.ne_own h.ol (by rw [hb,e _ f]))
theorem ApS.set (h:ApS w W Cm Cg bo C bn grs vl K lv) (i:Nat) (v:Value):ApS w (W.setCell ⟨bo,i,none⟩ v) Cm Cg bo (C.setIfInBounds i v) bn grs vl K lv:=by
 have hlo:=h.lo;have ho:Only (fun j=>j=bo) W (W.setCell ⟨bo,i,none⟩ v):=only_set3;exact ⟨h.hb.setCell (p:=⟨bo,i,none⟩) (show w.heap.size≤bo by omega) v,ho.blk h.km (by omega),ho.blk h.kg (by omega),ho.blk h.kz (by omega),h.ko.set_ i v,h.nm.only ho (fun f=>h.nm.ne_blk h.ko f),ho.owns h.ol (fun b hb f=>own_blk_ne h.ol h.ko (by decide) (by rw [hb,f])),h.lo,h.ln⟩
theorem ApS.lset {g n cap:Nat} {lk:List LmV} (h:ApS w W Cm Cg bo C bn grs (.slice (some ⟨g,0,none⟩) n cap) K lv) (ho:W'.ownsRow w.heap.size 44 5 (.slice (some ⟨g,0,none⟩) n cap) K (lmCells lk)) (hO:Only (fun i=>i=g) W W'):ApS w W' Cm Cg bo C bn grs (.slice (some ⟨g,0,none⟩) n cap) K lk:=by
 have hv:(Value.slice (some ⟨g,0,none⟩) n cap).ownBlock=some g:=rfl;have hlo:=(h.ol.lt g hv).1;have ne:∀ {t:TypeId} {c:Nat} {cs:Array Value},Blk W c t cs→44≠t→¬ c=g:=fun hk ht e=>own_blk_ne h.ol hk ht (by rw [hv,e]);exact ⟨h.hb.trans (hO.below h.hb.size fun i hi=>by omega),hO.blk h.km (ne h.km (by decide)),hO.blk h.kg (ne h.kg (by decide)),hO.blk h.kz (ne h.kz (by decide)),hO.blk h.ko (ne h.ko (by decide)),h.nm.only hO (fun e=>h.nm.ne_own h.ol (by rw [hv,e])),ho,h.lo,h.ln⟩
end
theorem row5 {W:World} {base g n cap k:Nat} {lv:List LmV} (o:W.ownsRow base 44 5 (.slice (some ⟨g,0,none⟩) n cap) n (lmCells lv)) (x:LmV) (hk:k<lv.length) :
 (((((W.setCell ⟨g,k*5,none⟩ (.string x.1.id)).setCell ⟨g,k*5+1,none⟩ (.int .i64 x.1.n)).setCell ⟨g,k*5+2,none⟩ (.int .i64 x.1.u)).setCell ⟨g,k*5+3,none⟩ (.int .i64 x.1.f)).setCell ⟨g,k*5+4,none⟩ (.slice x.2.1 x.1.S.length x.2.2)).ownsRow base 44 5 (.slice (some ⟨g,0,none⟩) n cap) n (lmCells (lv.set k x)) ∧
 Only (fun i=>i=g) W (((((W.setCell ⟨g,k*5,none⟩ (.string x.1.id)).setCell ⟨g,k*5+1,none⟩ (.int .i64 x.1.n)).setCell ⟨g,k*5+2,none⟩ (.int .i64 x.1.u)).setCell ⟨g,k*5+3,none⟩ (.int .i64 x.1.f)).setCell ⟨g,k*5+4,none⟩ (.slice x.2.1 x.1.S.length x.2.2)):=by
 rw [lmCells_set lv k x hk];have s0:=(o.stored (k*5) (.string x.1.id)).1;have s1:=(s0.stored (k*5+1) (.int .i64 x.1.n)).1;have s2:=(s1.stored (k*5+2) (.int .i64 x.1.u)).1;have s3:=(s2.stored (k*5+3) (.int .i64 x.1.f)).1;have s4:=(s3.stored (k*5+4) (.slice x.2.1 x.1.S.length x.2.2)).1;exact ⟨s4,(((((Only.refl (fun i=>i=g) W).setCell (p:=⟨g,k*5,none⟩) (.inl rfl) _).setCell (p:=⟨g,k*5+1,none⟩) (.inl rfl) _).setCell (p:=⟨g,k*5+2,none⟩) (.inl rfl) _).setCell (p:=⟨g,k*5+3,none⟩) (.inl rfl) _).setCell (p:=⟨g,k*5+4,none⟩) (.inl rfl) _⟩
end Go.Proofs.YtknchlpcpgflkaaGreatDoor
